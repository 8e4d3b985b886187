/- The walks of number and common. -/
import Derived.Test.YtdcleibbldmnaaaDelM
import Derived.Test.YtdcleibbldmnaaaWireK
import Derived.Test.YtdcleibbldmnaaaLists
namespace Go.Proofs.Ytdcleibbldmnaaa
open Go.RowKit Go.Mx

/-- x[i:] and x[:i] of a slice that reads as bytes, under one name. -/
theorem cutD {w : World} {v : Value} {l : List UInt8} (h : Sl w 1 v l.length (bs l)) {i : Nat} (hi : i ≤ l.length) :
    ∃ xo xc, (∀ w', (Instr.sliceAt 22 v (some (.int .i64 (i : Int))) none none).run Try.prog w' = .ok (.slice xo (l.length - i) xc) w') ∧ ∀ w', Sl w' 1 v l.length (bs l) → Sl w' 1 (.slice xo (l.length - i) xc) (l.drop i).length (bs (l.drop i)) := by
  obtain ⟨x, p, q⟩ := h.cutRun Try.elU8 (some (.int .i64 (i : Int))) none i l.length (.inr ⟨.i64, rfl⟩) (.inl ⟨rfl, rfl⟩) hi (Nat.le_refl _)
  have q' : ∀ w', Sl w' 1 v l.length (bs l) → Sl w' 1 x (l.drop i).length (bs (l.drop i)) := fun w' h' => by
    have := Sl.cutB (q _ h') (Nat.le_refl _) hi
    rwa [List.take_length] at this
  obtain ⟨xo, xc, hx, _⟩ := q' _ h
  rw [List.length_drop] at hx
  subst hx
  exact ⟨xo, xc, p, q'⟩
theorem cutT {w : World} {v : Value} {l : List UInt8} (h : Sl w 1 v l.length (bs l)) {i : Nat} (hi : i ≤ l.length) :
    ∃ xo xc, (∀ w', (Instr.sliceAt 22 v none (some (.int .i64 (i : Int))) none).run Try.prog w' = .ok (.slice xo i xc) w') ∧ ∀ w', Sl w' 1 v l.length (bs l) → Sl w' 1 (.slice xo i xc) (l.take i).length (bs (l.take i)) := by
  obtain ⟨x, p, q⟩ := h.cutRun Try.elU8 none (some (.int .i64 (i : Int))) 0 i (.inl ⟨rfl, rfl⟩) (.inr ⟨.i64, rfl⟩) (Nat.zero_le _) hi
  have q' : ∀ w', Sl w' 1 v l.length (bs l) → Sl w' 1 x (l.take i).length (bs (l.take i)) := fun w' h' => by
    have := Sl.cutB (q _ h') hi (Nat.zero_le _)
    rwa [List.drop_zero] at this
  obtain ⟨xo, xc, hx, _⟩ := q' _ h
  have e : (l.take i).length = i := by rw [List.length_take]; omega
  rw [e] at hx
  subst hx
  exact ⟨xo, xc, p, q'⟩

theorem wf_nat {k : Nat} (h : k ≤ 9223372036854775807) : (Lit.int .i64 (k : Int)).wf = true := by
  have h1 : IntKind.i64.min = -9223372036854775808 := by decide
  have h2 : IntKind.i64.max = 9223372036854775807 := by decide
  simp only [Lit.wf, Bool.and_eq_true, decide_eq_true_eq, h1, h2]
  omega

theorem number_app (w0 w : World) (R : List Row) (Q : List Rd) (v : Value) (xs : List Value) (n k : Nat) (hs : St w0 w (⟨v, 5, 1, n, xs⟩ :: R) Q) (hk : k ≤ 72057594037927936) (hn : n ≤ 100000000) :
    Calls Try.prog 20 #[v, .int .i64 (k : Int)] w fun e w' => ∃ v', e = .returned v' ∧ St w0 w' (⟨v', 5, 1, n + (putL k).length, xs ++ bs (putL k)⟩ :: R) Q := by
  have h9 := putL_9 hk
  go_enter Try.func20, Try.ntmps20
  go_wp2_with fail
  refine (Put_any (k : Int) _ (wf_nat (by omega))).mono ?_
  rintro e w1 hp
  obtain ⟨x, rfl, hx⟩ := hp.good hk
  have hs1 := (hs.call1 hx).swap
  generalize hpl : (putL k).length = pl at *
  go_wp2_with (at_builtin; refine wpl_app rfl _ _ 22 rfl Try.elU8 hs1 rfl (by exact hx.sl0) (bs_one _) (by omega) ?_; intro v2 w2 hs2 _)
  go_ret
  rw [hpl]
  exact ⟨v2, rfl, hs2.sub (List.Sublist.cons_cons _ (List.sublist_cons_self _ _)) fun _ h => h⟩

theorem u8_beqT {x y : UInt8} (h : x = y) : ((x.toNat : Int) == (y.toNat : Int)) = true := by simp [h]
theorem u8_beqF {x y : UInt8} (h : x ≠ y) : ((x.toNat : Int) == (y.toNat : Int)) = false := by
  rw [beq_eq_false_iff_ne]; intro h'; exact h (UInt8.toNat_inj.1 (by omega))

theorem common_any (w : World) (va vb : Value) (a b : List UInt8) (ha : Sl w 1 va a.length (bs a)) (hb : Sl w 1 vb b.length (bs b)) :
    Calls Try.prog 31 #[va, vb] w fun e w' => e = .returned (.int .i64 (lcp a b : Int)) ∧ St w w' [] [] := by
  obtain ⟨ao, ac, ablk, aoff, rfl, h1, h2, _, hca⟩ := ha.byt
  obtain ⟨bo, bc, bblk, boff, rfl, h3, h4, _, hcb⟩ := hb.byt
  clear ha hb
  have HA := Mx.hid hca
  have HB := Mx.hid hcb
  clear hca hcb
  go_enter Try.func31, Try.ntmps31
  go_wp2_with fail
  go_loopw [5] (fun x wr => ∃ i : Nat, i ≤ a.length ∧ i ≤ b.length ∧ x = .int .i64 i ∧ Hid (a.take i = b.take i) ∧ St w wr [] []) (fun x _ => a.length - (intOf x).toNat)
  case atStart => exact ⟨0, by omega, by omega, rfl, by simp [Hid], St.refl w⟩
  case round =>
    obtain ⟨i, hi, hi', rfl, Ht, hs⟩ := hrel
    by_cases hlt : i < a.length
    · by_cases hlt' : i < b.length
      · obtain ⟨rfl, c1⟩ := HA.out i hlt
        obtain ⟨rfl, c2⟩ := HB.out i hlt'
        have c1 := hs.keep c1
        have c2 := hs.keep c2
        have hii : (i : Int) < (a.length : Int) := by omega
        have hii' : (i : Int) < (b.length : Int) := by omega
        have d1 : decide (i < a.length) = true := decide_eq_true hlt
        have d2 : decide (i < b.length) = true := decide_eq_true hlt'
        by_cases hx : a[i] = b[i]
        · have hb := u8_beqT hx
          have Hx := Mx.hid hx
          clear hx
          go_wp2_with fail
          go_quiet (fail)
          go_wp2_with fail
          go_roundw
          case rel => exact ⟨i + 1, by omega, by omega, by go_num, by rw [List.take_succ_eq_append_getElem hlt, List.take_succ_eq_append_getElem hlt', Ht.out, Hx.out]; rfl, hs.drewN _⟩
          case measure => simp [intOf]; omega
        · have hb := u8_beqF hx
          have Hx := Mx.hid hx
          clear hx
          go_wp2_with fail
          go_quiet (fail)
          go_wp2_with fail
          go_ret
          exact ⟨by rw [lcp_stop Ht.out hi hi' fun _ _ => Hx.out]; rfl, hs.drewN _⟩
      · have d1 : decide (i < a.length) = true := decide_eq_true hlt
        have d2 : decide (i < b.length) = false := decide_eq_false hlt'
        have HL := Mx.hid hlt'
        have HI := Mx.hid hi
        have HI' := Mx.hid hi'
        clear hlt' hi hi'
        go_wp2_with fail
        go_quiet (fail)
        go_wp2_with fail
        go_ret
        exact ⟨by rw [lcp_stop Ht.out HI.out HI'.out fun _ h => absurd h HL.out]; rfl, hs.drewN _⟩
    · have d1 : decide (i < a.length) = false := decide_eq_false hlt
      have HL := Mx.hid hlt
      have HI := Mx.hid hi
      have HI' := Mx.hid hi'
      clear hlt hi hi'
      go_wp2_with fail
      go_quiet (fail)
      go_wp2_with fail
      go_ret
      exact ⟨by rw [lcp_stop Ht.out HI.out HI'.out fun h _ => absurd h HL.out]; rfl, hs.drewN _⟩
end Go.Proofs.Ytdcleibbldmnaaa
