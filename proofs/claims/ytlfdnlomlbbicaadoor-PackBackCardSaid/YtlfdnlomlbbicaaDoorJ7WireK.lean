/- What a put number is. Bytes cut, under one name. The walks of number and common. The walk of the document's match. The walks of marlaw2's document: marref1.Put, marref1.Get. The walks of the document's Sizes and step. The walk of the document's step. The walk of a delta's reader. -/
import Derived.Test.YtlfdnlomlbbicaaDoorWireG
import Derived.Test.YtlfdnlomlbbicaaDoorJ3Base
import Derived.Test.YtlfdnlomlbbicaaDoorDelM
import Derived.Test.YtlfdnlomlbbicaaDoorJ1WireP
import Derived.Test.YtlfdnlomlbbicaaDoorJ4LibA
namespace Go.Proofs.YtlfdnlomlbbicaaDoor
open Go.RowKit Go.Mx

theorem PutPost.bad {n : Int} {w w' : World} {e : Ending} (h : PutPost n w e w') (hn : n < 0 ∨ 72057594037927936 < n) : e = .returned (.tuple #[.slice none 0 0, .int .i64 1]) ∧ w = w' := by
  unfold PutPost at h; rw [if_pos hn] at h; exact h
theorem PutPost.good {n : Nat} {w w' : World} {e : Ending} (h : PutPost n w e w') (hn : n ≤ 72057594037927936) : ∃ v, e = .returned (.tuple #[v, .int .i64 0]) ∧ St w w' [⟨v, 5, 1, (putL n).length, bs (putL n)⟩] [] := by
  unfold PutPost at h; rw [if_neg (by omega), Int.toNat_natCast] at h; exact h

theorem PutPost.any {n : Int} {w w' : World} {e : Ending} (h : PutPost n w e w') : ∃ v k, e = .returned (.tuple #[v, .int .i64 k]) ∧ St w w' [] [] := by
  unfold PutPost at h
  split at h
  · obtain ⟨rfl, rfl⟩ := h; exact ⟨_, _, rfl, St.refl _⟩
  · obtain ⟨v, rfl, hs⟩ := h; exact ⟨_, _, rfl, hs.bare⟩
end Go.Proofs.YtlfdnlomlbbicaaDoor

namespace Go.Proofs.YtlfdnlomlbbicaaDoor
open Go.RowKit Go.Mx

/-- x[i:] and x[:i] of a slice that reads as bytes, under one name. -/
theorem cutD {w : World} {v : Value} {l : List UInt8} (h : Sl w 1 v l.length (bs l)) {i : Nat} (hi : i ≤ l.length) :
    ∃ xo xc, (∀ w', (Instr.sliceAt 25 v (some (.int .i64 (i : Int))) none none).run Tryd.prog w' = .ok (.slice xo (l.length - i) xc) w') ∧ ∀ w', Sl w' 1 v l.length (bs l) → Sl w' 1 (.slice xo (l.length - i) xc) (l.drop i).length (bs (l.drop i)) := by
  obtain ⟨x, p, q⟩ := h.cutRun Tryd.elU8 (some (.int .i64 (i : Int))) none i l.length (.inr ⟨.i64, rfl⟩) (.inl ⟨rfl, rfl⟩) hi (Nat.le_refl _)
  have q' : ∀ w', Sl w' 1 v l.length (bs l) → Sl w' 1 x (l.drop i).length (bs (l.drop i)) := fun w' h' => by
    have := Sl.cutB (q _ h') (Nat.le_refl _) hi
    rwa [List.take_length] at this
  obtain ⟨xo, xc, hx, _⟩ := q' _ h
  rw [List.length_drop] at hx
  subst hx
  exact ⟨xo, xc, p, q'⟩
theorem cutT {w : World} {v : Value} {l : List UInt8} (h : Sl w 1 v l.length (bs l)) {i : Nat} (hi : i ≤ l.length) :
    ∃ xo xc, (∀ w', (Instr.sliceAt 25 v none (some (.int .i64 (i : Int))) none).run Tryd.prog w' = .ok (.slice xo i xc) w') ∧ ∀ w', Sl w' 1 v l.length (bs l) → Sl w' 1 (.slice xo i xc) (l.take i).length (bs (l.take i)) := by
  obtain ⟨x, p, q⟩ := h.cutRun Tryd.elU8 none (some (.int .i64 (i : Int))) 0 i (.inl ⟨rfl, rfl⟩) (.inr ⟨.i64, rfl⟩) (Nat.zero_le _) hi
  have q' : ∀ w', Sl w' 1 v l.length (bs l) → Sl w' 1 x (l.take i).length (bs (l.take i)) := fun w' h' => by
    have := Sl.cutB (q _ h') hi (Nat.zero_le _)
    rwa [List.drop_zero] at this
  obtain ⟨xo, xc, hx, _⟩ := q' _ h
  have e : (l.take i).length = i := by rw [List.length_take]; omega
  rw [e] at hx
  subst hx
  exact ⟨xo, xc, p, q'⟩
end Go.Proofs.YtlfdnlomlbbicaaDoor

namespace Go.Proofs.YtlfdnlomlbbicaaDoor
open Go.RowKit Go.Mx

theorem wf_nat {k : Nat} (h : k ≤ 9223372036854775807) : (Lit.int .i64 (k : Int)).wf = true := by
  have h1 : IntKind.i64.min = -9223372036854775808 := by decide
  have h2 : IntKind.i64.max = 9223372036854775807 := by decide
  simp only [Lit.wf, Bool.and_eq_true, decide_eq_true_eq, h1, h2]
  omega

theorem number_app (w0 w : World) (R : List Row) (Q : List Rd) (v : Value) (xs : List Value) (n k : Nat) (hs : St w0 w (⟨v, 5, 1, n, xs⟩ :: R) Q) (hk : k ≤ 72057594037927936) (hn : n ≤ 100000000) :
    Calls Tryd.prog 23 #[v, .int .i64 (k : Int)] w fun e w' => ∃ v', e = .returned v' ∧ St w0 w' (⟨v', 5, 1, n + (putL k).length, xs ++ bs (putL k)⟩ :: R) Q := by
  have h9 := putL_9 hk
  go_enter Tryd.func23, Tryd.ntmps23
  go_wp2_with fail
  refine (Put_any (k : Int) _ (wf_nat (by omega))).mono ?_
  rintro e w1 hp
  obtain ⟨x, rfl, hx⟩ := hp.good hk
  have hs1 := (hs.call1 hx).swap
  generalize hpl : (putL k).length = pl at *
  go_wp2_with (at_builtin; refine wpl_app rfl _ _ 25 rfl Tryd.elU8 hs1 rfl (by exact hx.sl0) (bs_one _) (by omega) ?_; intro v2 w2 hs2 _)
  go_ret
  rw [hpl]
  exact ⟨v2, rfl, hs2.sub (List.Sublist.cons_cons _ (List.sublist_cons_self _ _)) fun _ h => h⟩

theorem u8_beqT {x y : UInt8} (h : x = y) : ((x.toNat : Int) == (y.toNat : Int)) = true := by simp [h]
theorem u8_beqF {x y : UInt8} (h : x ≠ y) : ((x.toNat : Int) == (y.toNat : Int)) = false := by
  rw [beq_eq_false_iff_ne]; intro h'; exact h (UInt8.toNat_inj.1 (by omega))

theorem common_any (w : World) (va vb : Value) (a b : List UInt8) (ha : Sl w 1 va a.length (bs a)) (hb : Sl w 1 vb b.length (bs b)) :
    Calls Tryd.prog 35 #[va, vb] w fun e w' => e = .returned (.int .i64 (lcp a b : Int)) ∧ St w w' [] [] := by
  obtain ⟨ao, ac, ablk, aoff, rfl, h1, h2, _, hca⟩ := ha.byt
  obtain ⟨bo, bc, bblk, boff, rfl, h3, h4, _, hcb⟩ := hb.byt
  clear ha hb
  have HA := Mx.hid hca
  have HB := Mx.hid hcb
  clear hca hcb
  go_enter Tryd.func35, Tryd.ntmps35
  go_wp2_with fail
  go_loopw [5] (fun x wr => ∃ i : Nat, i ≤ a.length ∧ i ≤ b.length ∧ x = .int .i64 i ∧ Hid (a.take i = b.take i) ∧ St w wr [] []) (fun x _ => a.length - (intOf x).toNat)
  case atStart => exact ⟨0, by omega, by omega, rfl, by simp [Hid], St.refl w⟩
  case round =>
    obtain ⟨i, hi, hi', rfl, Ht, hs⟩ := hrel
    by_cases hlt : i < a.length
    · by_cases hlt' : i < b.length
      · obtain ⟨rfl, c1⟩ := HA.out i hlt
        obtain ⟨rfl, c2⟩ := HB.out i hlt'
        have c1 := hs.keep c1
        have c2 := hs.keep c2
        have hii : (i : Int) < (a.length : Int) := by omega
        have hii' : (i : Int) < (b.length : Int) := by omega
        have d1 : decide (i < a.length) = true := decide_eq_true hlt
        have d2 : decide (i < b.length) = true := decide_eq_true hlt'
        by_cases hx : a[i] = b[i]
        · have hb := u8_beqT hx
          have Hx := Mx.hid hx
          clear hx
          go_wp2_with fail
          go_quiet (fail)
          go_wp2_with fail
          go_roundw
          case rel => exact ⟨i + 1, by omega, by omega, by go_num, by rw [List.take_succ_eq_append_getElem hlt, List.take_succ_eq_append_getElem hlt', Ht.out, Hx.out]; rfl, hs.drewN _⟩
          case measure => simp [intOf]; omega
        · have hb := u8_beqF hx
          have Hx := Mx.hid hx
          clear hx
          go_wp2_with fail
          go_quiet (fail)
          go_wp2_with fail
          go_ret
          exact ⟨by rw [lcp_stop Ht.out hi hi' fun _ _ => Hx.out]; rfl, hs.drewN _⟩
      · have d1 : decide (i < a.length) = true := decide_eq_true hlt
        have d2 : decide (i < b.length) = false := decide_eq_false hlt'
        have HL := Mx.hid hlt'
        have HI := Mx.hid hi
        have HI' := Mx.hid hi'
        clear hlt' hi hi'
        go_wp2_with fail
        go_quiet (fail)
        go_wp2_with fail
        go_ret
        exact ⟨by rw [lcp_stop Ht.out HI.out HI'.out fun _ h => absurd h HL.out]; rfl, hs.drewN _⟩
    · have d1 : decide (i < a.length) = false := decide_eq_false hlt
      have HL := Mx.hid hlt
      have HI := Mx.hid hi
      have HI' := Mx.hid hi'
      clear hlt hi hi'
      go_wp2_with fail
      go_quiet (fail)
      go_wp2_with fail
      go_ret
      exact ⟨by rw [lcp_stop Ht.out HI.out HI'.out fun h _ => absurd h HL.out]; rfl, hs.drewN _⟩
end Go.Proofs.YtlfdnlomlbbicaaDoor

namespace Go.Proofs.YtlfdnlomlbbicaaDoor
open Go.RowKit Go.Mx


end Go.Proofs.YtlfdnlomlbbicaaDoor

namespace Go.Proofs.YtlfdnlomlbbicaaDoor
open Go.RowKit Go.Mx

theorem orand64 (m : Nat) : bits BinOp.or IntKind.i64 (bits BinOp.and IntKind.i64 (m : Int) 127) 128 % 256 = ((UInt8.ofNat (m % 128 + 128)).toNat : Int) := by
  rw [i64_and127]
  have h1 : (m : Int) % 128 = ((m % 128 : Nat) : Int) := by omega
  rw [h1, show (128 : Int) = ((128 : Nat) : Int) from rfl, i64_or _ _ (by omega) (by omega), or128_nat _ (by omega), u8_nat (by omega)]
  omega

/-- n<<7 | y, n below 2^56. -/
theorem shl7_or (n : Nat) (y : UInt8) (hn : n < 72057594037927936) :
    bits BinOp.or IntKind.i64 ((n : Int) * 128) (wrap64 (bits BinOp.and IntKind.u8 (y.toNat : Int) 127)) = ((y.toNat % 128 + 128 * n : Nat) : Int) := by
  have hy := y.toNat_lt
  have e0 : bits BinOp.and IntKind.u8 (y.toNat : Int) 127 = ((y.toNat % 128 : Nat) : Int) := by
    rw [u8_and _ 127 (by omega) (by omega) (by omega) (by omega), Int.toNat_natCast, show Int.toNat 127 = 127 from rfl, nat_mask7]
  have e1 : wrap64 ((y.toNat % 128 : Nat) : Int) = ((y.toNat % 128 : Nat) : Int) := IntWalk.wrap64_in _ (by omega)
  rw [e0, e1, show (n : Int) * 128 = ((n * 128 : Nat) : Int) from by omega, i64_or _ _ (by omega) (by omega), nat_join 7 _ _ (Nat.mul_mod_left _ _) (by omega)]
  omega

end Go.Proofs.YtlfdnlomlbbicaaDoor

namespace Go.Proofs.YtlfdnlomlbbicaaDoor
open Go.RowKit Go.Mx

def RSizesPost (w : World) (d : List UInt8) (e : Ending) (w' : World) : Prop :=
  e = .returned (.tuple #[.int .i64 (szA d : Int), .int .i64 (szB d : Int), .int .i64 (szE d)]) ∧ St w w' [] []

end Go.Proofs.YtlfdnlomlbbicaaDoor

namespace Go.Proofs.YtlfdnlomlbbicaaDoor
open Go.RowKit Go.Mx

/-- The document's step: the error, the bytes, where it ends. -/
def rsE (base : List UInt8) (k : UInt8) (l : List UInt8) (left : Int) : Int := if (stepR base k l).1 ≠ 0 then (stepR base k l).1 else if left < (stepR base k l).2.1.length then 3 else 0
def RStepPost (w : World) (base : List UInt8) (k : UInt8) (l : List UInt8) (left : Int) (len : Nat) (e : Ending) (w' : World) : Prop :=
  ∃ (vx : Value) (nx : Int), e = .returned (.tuple #[vx, .int .i64 nx, .int .i64 (rsE base k l left)]) ∧ St w w' [] [] ∧
    (rsE base k l left = 0 → Sl w 1 vx (stepR base k l).2.1.length (bs (stepR base k l).2.1) ∧ nx = ((len - (stepR base k l).2.2.length : Nat) : Int))
theorem RStepPost.bad {w w' : World} {base : List UInt8} {k : UInt8} {l : List UInt8} {left : Int} {len : Nat} {x : Int} (h : rsE base k l left = x) (hx : x ≠ 0) (hs : St w w' [] []) :
    RStepPost w base k l left len (.returned (.tuple #[.slice none 0 0, .int .i64 0, .int .i64 x])) w' := by
  refine ⟨_, _, by rw [h], hs, fun h0 => absurd (h.symm.trans h0) hx⟩
theorem RStepPost.good {w w' : World} {base : List UInt8} {k : UInt8} {l : List UInt8} {left : Int} {len : Nat} {vx : Value} {nx : Int} {sx sl : List UInt8} (h : rsE base k l left = 0) (hS : stepR base k l = (0, sx, sl)) (hs : St w w' [] [])
    (hv : Sl w 1 vx sx.length (bs sx)) (hn : nx = ((len - sl.length : Nat) : Int)) : RStepPost w base k l left len (.returned (.tuple #[vx, .int .i64 nx, .int .i64 0])) w' := by
  refine ⟨vx, nx, by rw [h], hs, fun _ => ?_⟩
  rw [hS]
  exact ⟨hv, hn⟩
theorem rsE_bad {base : List UInt8} {k : UInt8} {l : List UInt8} {left x : Int} {a b : List UInt8} (h : stepR base k l = (x, a, b)) (hx : x ≠ 0) : rsE base k l left = x := by
  unfold rsE; rw [h, if_pos hx]
theorem rsE_long {base : List UInt8} {k : UInt8} {l : List UInt8} {left : Int} {a b : List UInt8} (h : stepR base k l = (0, a, b)) (hx : left < a.length) : rsE base k l left = 3 := by
  unfold rsE; rw [h, if_neg (by simp), if_pos hx]
theorem rsE_good {base : List UInt8} {k : UInt8} {l : List UInt8} {left : Int} {a b : List UInt8} (h : stepR base k l = (0, a, b)) (hx : ¬ left < a.length) : rsE base k l left = 0 := by
  unfold rsE; rw [h, if_neg (by simp), if_neg hx]

end Go.Proofs.YtlfdnlomlbbicaaDoor

namespace Go.Proofs.YtlfdnlomlbbicaaDoor
open Go.RowKit Go.Mx

/-- The reader's variable. -/
abbrev rdr (g : Nat) (v : Value) (e : Int) : Row :=
  ⟨.slice (some ⟨g, 0, none⟩) 1 1, 122, 2, 1, [v, .int .i64 e]⟩

def NumPost (w0 : World) (R : List Row) (Q : List Rd) (g : Nat) (l : List UInt8) (e : Ending) (w' : World) : Prop :=
  ∃ v : Value, e = .returned (.int .i64 (nmN l : Int)) ∧ Sl w0 1 v (l.drop (nmJ l)).length (bs (l.drop (nmJ l))) ∧ St w0 w' (rdr g v (nmE l) :: R) Q

set_option maxHeartbeats 1000000 in
theorem dnumber_go (w0 w : World) (R : List Row) (Q : List Rd) (g : Nat) (v : Value) (l : List UInt8) (hs : St w0 w (rdr g v 0 :: R) Q) (hl : Sl w0 1 v l.length (bs l)) (hn : l.length ≤ 140737488355328) :
    Calls Tryd.prog 77 #[.pointer (some ⟨g, 0, none⟩)] w (NumPost w0 R Q g l) := by
  have c0 : w.cell? ⟨g, 0, none⟩ = some v := hs.rcell (List.mem_cons_self ..) rfl
  have c1 : w.cell? ⟨g, 1, none⟩ = some (.int .i64 0) := hs.rcell (List.mem_cons_self ..) rfl
  go_enter Tryd.func77, Tryd.ntmps77
  go_wp2_with fail
  refine (get_any v l 0 _ (hs.old hl) hn).mono ?_
  rintro e w1 ⟨rfl, hk⟩
  rw [nm_eq]
  have hs1 := hs.call0 hk
  have hJ : nmJ l ≤ l.length := by
    by_cases h : nmE l = 0
    · exact (nm_good h).2.1
    · rw [(nm_bad h).2]; omega
  obtain ⟨x, p1, q1⟩ := hl.cutRun Tryd.elU8 (some (.int .i64 (nmJ l : Int))) none (nmJ l) l.length (.inr ⟨.i64, rfl⟩) (.inl ⟨rfl, rfl⟩) hJ (Nat.le_refl _)
  have hx := Sl.cutB (q1 _ hl) (Nat.le_refl _) hJ
  rw [List.take_length] at hx
  generalize hXX : l.drop (nmJ l) = X at hx ⊢
  have HX := Mx.hid hx
  obtain ⟨xo, xc, rfl, _⟩ := hx
  generalize hXL : X.length = xl at *
  clear q1 hl c0 c1
  have c2 : w1.cell? ⟨g, 0, none⟩ = some v := hs1.rcell (List.mem_cons_self ..) rfl
  generalize hjj : (nmJ l : Int) = jj at p1 ⊢
  generalize hnn : (nmN l : Int) = nn
  generalize hee : nmE l = ee
  go_wp2_with (first | ((with_reducible show wpList _ _ _ _ _ _); refine wpl_store1 rfl 26 _ _ rfl hs1 (1) rfl (.int .i64 ee) rfl rfl (by kernel_rfl) (by simp) rfl ?_; intro w2 hs2); have c3 : w2.cell? ⟨g, 0, none⟩ = some v := hs2.rcell (List.mem_cons_self ..) rfl | ((with_reducible show wpList _ _ _ _ _ _); refine wpl_store1 rfl 25 _ _ rfl hs2 (0) rfl (.slice xo xl xc) rfl rfl (by kernel_rfl) (by simp) rfl ?_; intro w3 hs3))
  go_ret
  unfold NumPost
  rw [hXX, hXL, hnn, hee]
  exact ⟨.slice xo xl xc, rfl, HX.out, hs3⟩

/-- A reader that met an error says nothing. -/
theorem number_stop (w : World) (g : Nat) (e : Int) (c1 : w.cell? ⟨g, 1, none⟩ = some (.int .i64 e)) (he : e ≠ 0) :
    Calls Tryd.prog 77 #[.pointer (some ⟨g, 0, none⟩)] w fun r w' => r = .returned (.int .i64 0) ∧ St w w' [] [] := by
  have he' : (e != 0) = true := by simpa using he
  go_enter Tryd.func77, Tryd.ntmps77
  go_wp2_with fail
  go_ret
  exact ⟨rfl, St.refl _⟩
end Go.Proofs.YtlfdnlomlbbicaaDoor
