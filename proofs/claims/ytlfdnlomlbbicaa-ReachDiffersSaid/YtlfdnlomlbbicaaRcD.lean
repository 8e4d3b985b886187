/- reach.Diff at 2000 over a Few source. -/
import Derived.Test.YtlfdnlomlbbicaaJARcC
import Derived.Test.YtlfdnlomlbbicaaDif
namespace Go.Proofs.Ytlfdnlomlbbicaa
open Go.RowKit Go.Mx
/-- What Diff leaves. -/
def DifAns (f : ByteArray → Option (List UInt8)) (a b : List ByteArray) (w : World) (e : Ending) (w' : World) : Prop :=
  ∃ M N, CloN (nbF f) a M ∧ M.Nodup ∧ CloN (nbF f) b N ∧ N.Nodup ∧
    ((lackL f M ≠ [] ∧ e = .returned (.tuple #[.slice none 0 0, .int .i64 7]) ∧ St w w' [] []) ∨
    (lackL f M = [] ∧ ∃ v, e = .returned (.tuple #[v, .int .i64 0]) ∧ St w w' [⟨v, 9, 1, (outL (uniqL (sortL (toldL f N) ++ sortL (lackL f N))) (sortL (toldL f M))).length, ss (outL (uniqL (sortL (toldL f N) ++ sortL (lackL f N))) (sortL (toldL f M)))⟩] []))
set_option maxRecDepth 100000 in
set_option maxHeartbeats 2000000 in
theorem diff2000 (g2 g3 g5 : Nat) (l : List (List UInt8)) (lie : Bool) (va vb : Value) (a b : List ByteArray) (w : World) (h : SM w g2 g3 g5 l lie) (hz : ∀ x ∈ l, x.length ≤ 1500) (hl : l.length ≤ 40) (hsum : (l.map List.length).sum ≤ 6000) (ha : Sl w 1 va a.length (ss a)) (hb : Sl w 1 vb b.length (ss b)) (hal : a.length ≤ 20) (hbl : b.length ≤ 20) :
    Calls Try.prog 33 #[.func (Fn.func 56) #[] #[.pointer (some ⟨g2, 0, none⟩), .pointer (some ⟨g3, 0, none⟩), .pointer (some ⟨g5, 0, none⟩)], va, vb, .int .i64 2000] w (DifAns (srcF l lie) a b w) := by
  have HCL := Mx.hid (fun wx v ids (h : SM wx g2 g3 g5 l lie) (hv : Sl wx 1 v ids.length (ss ids)) (hil : ids.length ≤ 1000) => clo2000 g2 g3 g5 l lie v ids wx h hz hl hsum hv hil)
  have HA := Mx.hid ha
  have HB := Mx.hid hb
  obtain ⟨ao, ac, rfl, _⟩ := ha.form
  obtain ⟨bo, bc, rfl, _⟩ := hb.form
  clear ha hb hz hl hsum
  generalize srcF l lie = f at *
  go_enter Try.func33, Try.ntmps33
  go_wp2_with fail
  refine (HCL.out _ _ a h HA.out (by omega)).mono ?_
  rintro e w1 ⟨vx, vp, M, rfl, h1, hcM, hnM, hlM⟩
  obtain ⟨xo, xc, rfl, _⟩ := id h1.sl0
  obtain ⟨po, pc, rfl, _⟩ := id h1.sl1
  go_wp2_with fail
  refine (HCL.out _ _ b (h.keep h1.bare) (h1.old HB.out) (by omega)).mono ?_
  rintro e w2 ⟨vy, vq, N, rfl, h2, hcN, hnN, hlN⟩
  obtain ⟨yo, yc, rfl, _⟩ := id h2.sl0
  obtain ⟨qo, qc, rfl, _⟩ := id h2.sl1
  have HP := Mx.hid (And.intro (And.intro hcM hnM) (And.intro hcN hnN))
  have hs := (h1.call h2)
  clear hcM hnM hcN hnN
  by_cases hlk : lackL f M = []
  · have hz0 : (lackL f M).length = 0 := by rw [hlk]; rfl
    go_wp2_with fail
    have LN1 := told_len f N
    have LN2 := lack_len f N
    have LM := told_len f M
    have SY : Sl w2 1 (.slice yo (toldL f N).length yc) (sortL (toldL f N)).length (ss (sortL (toldL f N))) := by rw [sortL_len]; exact h2.sl0
    have SQ : Sl w2 1 (.slice qo (lackL f N).length qc) (sortL (lackL f N)).length (ss (sortL (lackL f N))) := by rw [sortL_len]; exact h2.sl1
    refine (wmerge_any _ _ (sortL (toldL f N)) (sortL (lackL f N)) w2 SY SQ (by rw [sortL_len, sortL_len]; omega)).mono ?_
    rintro e w3 ⟨vt, rfl, h3⟩
    obtain ⟨to1, tc, rfl, _⟩ := id h3.sl0
    have hs3 := ((hs.call h3).freeze.bq (.slice to1 (uniqL (sortL (toldL f N) ++ sortL (lackL f N))).length tc) 24)
    have hs4 := hs3.sub (R' := [⟨.slice xo (toldL f M).length xc, 9, 1, (sortL (toldL f M)).length, ss (sortL (toldL f M))⟩]) (by rw [sortL_len]; exact .cons _ (.cons _ (.cons_cons _ (.cons _ .slnil)))) (fun q h => h)
    have HD := Mx.hid (deleteD_any _ _ (uniqL (sortL (toldL f N) ++ sortL (lackL f N))) _ _ hs4 (uniqL_strict _).sorted (by have := uniqL_len (sortL (toldL f N) ++ sortL (lackL f N)); rw [List.length_append, sortL_len, sortL_len] at this; omega) (by rw [sortL_len]; omega))
    go_wp2_with fail
    refine HD.out.mono ?_
    rintro e w5 ⟨vd, rfl, h5⟩
    obtain ⟨d1, d2, rfl, _⟩ := id h5.sl0
    go_wp2_with fail
    go_ret2
    exact ⟨M, N, HP.out.1.1, HP.out.1.2, HP.out.2.1, HP.out.2.2, .inr ⟨hlk, _, rfl, h5.noQ⟩⟩
  · have hz1 : 0 < (lackL f M).length := List.length_pos_iff.2 hlk
    go_wp2_with fail
    go_ret2
    exact ⟨M, N, HP.out.1.1, HP.out.1.2, HP.out.2.1, HP.out.2.2, .inl ⟨hlk, rfl, hs.bare⟩⟩
end Go.Proofs.Ytlfdnlomlbbicaa
