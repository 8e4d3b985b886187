/- marlaw11's first: what the chapter's examples fix. -/
import Derived.Test.YtojbdlbcaoeffaaDagF
namespace Go.Mx
open Go Go.RowKit
def cloB (L : List Nd) (C : List ByteArray) : Bool := C.all fun c => match fnd L c with | some n => n.1.all fun p => memB C p | none => true
theorem anc_in {L : List Nd} {C : List ByteArray} (h : cloB L C = true) {x y : ByteArray} (ha : Anc L x y) : y ∈ C → x ∈ C := by
  induction ha with
  | refl => exact id
  | @step p y n h1 h2 _ ih =>
    intro hy
    have h3 := List.all_eq_true.1 h y hy
    simp only [h1] at h3
    exact ih (memB_iff.1 (List.all_eq_true.1 h3 p h2))
def upB (L : List Nd) (x : ByteArray) : Nat → ByteArray → Bool
  | 0, y => decide (x = y)
  | f + 1, y => decide (x = y) || match fnd L y with | some n => n.1.any fun p => upB L x f p | none => false
theorem up_anc {L : List Nd} {x : ByteArray} : ∀ {f : Nat} {y : ByteArray}, upB L x f y = true → Anc L x y
  | 0, y, h => by rw [of_decide_eq_true h]; exact .refl _
  | f + 1, y, h => by
    unfold upB at h
    rcases Bool.or_eq_true_iff.1 h with h | h
    · rw [of_decide_eq_true h]; exact .refl _
    · split at h
      · rename_i n hn
        obtain ⟨p, hp, hu⟩ := List.any_eq_true.1 h
        exact .step hn hp (up_anc hu)
      · cases h
def nearF (L : List Nd) (S : List ByteArray) : List ByteArray := S.filter fun x => S.all fun m => match fnd L m with | some n => !memB n.1 x | none => true
theorem near_ex {L : List Nd} {S S' N : List ByteArray} (hS : ∀ x, x ∈ S ↔ x ∈ S') (h : Near L S N) (x : ByteArray) : x ∈ N ↔ x ∈ nearF L S' := by
  rw [h x]
  unfold nearF
  rw [List.mem_filter, hS x]
  refine and_congr_right fun _ => ?_
  rw [List.all_eq_true]
  constructor
  · intro h m hm
    split
    · rename_i n hn
      have h2 := h m ((hS m).2 hm) n hn
      cases hq : memB n.1 x with
      | true => exact absurd (memB_iff.1 hq) h2
      | false => rfl
    · rfl
  · intro h m hm n hn
    have := h m ((hS m).1 hm)
    simp only [hn] at this
    intro hx
    rw [memB_iff.2 hx] at this
    cases this
def kA : ByteArray := ⟨#[65]⟩
def kB : ByteArray := ⟨#[66]⟩
def kC : ByteArray := ⟨#[67]⟩
def kD : ByteArray := ⟨#[68]⟩
def kE : ByteArray := ⟨#[69]⟩
def exL : List Nd := [] ++ [(kA, [], 0)] ++ [(kB, [kA], 1)] ++ [(kC, [kA], 1)] ++ [(kD, [kB, kC], 2)] ++ [(kE, [kB, kC], 2)]
theorem bases_ex {N S Ma Mb : List ByteArray} (hst : Strict N) (ha : Clo exL [kD] Ma) (hb : Clo exL [kE] Mb) (hS : ∀ x, x ∈ S ↔ x ∈ Ma ∧ x ∈ Mb) (hN : Near exL S N) : N = [kB, kC] := by
  have a1 : ∀ x, x ∈ Ma ↔ x ∈ [kA, kB, kC, kD] := fun x => by
    rw [ha.2 x]
    constructor
    · rintro ⟨i, hi, h⟩
      rw [List.mem_singleton.1 hi] at h
      exact anc_in (by decide +kernel) h (by simp)
    · intro h
      refine ⟨kD, by simp, up_anc (f := 5) ?_⟩
      revert x
      decide +kernel
  have b1 : ∀ x, x ∈ Mb ↔ x ∈ [kA, kB, kC, kE] := fun x => by
    rw [hb.2 x]
    constructor
    · rintro ⟨i, hi, h⟩
      rw [List.mem_singleton.1 hi] at h
      exact anc_in (by decide +kernel) h (by simp)
    · intro h
      refine ⟨kE, by simp, up_anc (f := 5) ?_⟩
      revert x
      decide +kernel
  have s1 : ∀ x, x ∈ S ↔ x ∈ [kA, kB, kC, kD].filter fun x => memB [kA, kB, kC, kE] x := fun x => by
    rw [hS x, a1 x, b1 x, List.mem_filter, memB_iff]
  have e1 : nearF exL ([kA, kB, kC, kD].filter fun x => memB [kA, kB, kC, kE] x) = [kB, kC] := by decide +kernel
  refine strict_eq hst (by unfold Strict; decide +kernel) fun x => ?_
  rw [near_ex s1 hN x, e1]
/-- A graph of which only what it says is known. -/
def GL (w : World) (g B : Nat) (L : List Nd) : Prop := ∃ G, GG w g B G ∧ G.map (·.2) = L
theorem GL.keep {w0 w : World} {R : List Row} {Q : List Rd} {g B : Nat} {L : List Nd} (h : GL w0 g B L) (hs : St w0 w R Q) : GL w g B L := ⟨h.choose, h.choose_spec.1.keep hs, h.choose_spec.2⟩
theorem GG.gl {w : World} {g B : Nat} {G : List Gd} (h : GG w g B G) : GL w g B (G.map (·.2)) := ⟨G, h, rfl⟩
def LitPost (w0 : World) (g B : Nat) (L : List Nd) (e : Ending) (w' : World) : Prop := e = .returned (.int .i64 0) ∧ GL w' g B L ∧ St w0 w' [] []
end Go.Mx
namespace Go.Proofs.Ytojbdlbcaoeffaa
open Go.RowKit Go.Mx

theorem add_lit {g B : Nat} {L : List Nd} (id : ByteArray) (v : Value) (ps us : List ByteArray) (s : Int) {w0 w : World} (hs : St w0 w [] []) (hB : w0.heap.size ≤ B) (h : GL w g B L) (h0 : addE L id ps s = 0) (hu : uniqL ps = us) (hv : Sl w 1 v ps.length (ss ps)) (hl : ps.length ≤ 1000000) (hs2 : s ≤ 9223372036854775807) :
    Calls Try.prog 20 #[.pointer (some ⟨g, 0, none⟩), .string id, v, .int .i64 s] w (LitPost w0 g B (L ++ [(id, us, s)])) := by
  obtain ⟨G, hg, rfl⟩ := h
  have hss := (addE_ok h0).2.2.2
  refine (add_g g B G id v ps s w hg.r hg.r.apart hv hl (by omega) hs2 hg.st).mono ?_
  rintro e w' ⟨rfl, hgr, hsz, ⟨hne, _⟩ | ⟨_, vn, hr⟩⟩
  · exact absurd h0 hne
  · refine ⟨by rw [h0], ⟨_, ⟨hr, ?_, ?_⟩, by rw [List.map_append, ← hu]; rfl⟩, hs.other hg.r.mp.noRow hB hgr⟩
    · rw [List.map_append]; exact hg.wf.add h0
    · rw [List.map_append]; exact hg.st.add (by show -1 ≤ s; omega) hs2

set_option maxRecDepth 100000 in
theorem first_g (w : World) :
    Calls Try.prog 8 #[] w fun e w' => e = .returned (.bool true) ∧ St w w' [] [] := by
  go_enter Try.func8, Try.ntmps8
  go_wp2_with fail
  refine (new_g w).mono ?_
  rintro e w1 ⟨g, B, rfl, hB, hg, hr, hs⟩
  have HG := Mx.hid (show GL w1 g B [] from ⟨[], ⟨hr, .nil, .nil⟩, rfl⟩)
  have HB := Mx.hid hB
  have HS := Mx.hid hs
  clear hr hg hB hs
  go_wp2_with fail
  refine (add_lit kA _ [] [] 0 HS.out HB.out HG.out (by decide +kernel) (eq_uniqL (by unfold Strict; decide +kernel) fun _ => Iff.rfl).symm (Sl.nil _ _) (by decide) (by decide)).mono ?_
  clear HG HS
  rintro e w2 ⟨rfl, hg2, hs2⟩
  have HG := Mx.hid hg2
  have HS := Mx.hid hs2
  clear hg2 hs2
  go_wp2_with fail
  refine (add_lit kB _ [kA] [kA] 1 (HS.out.made _ 9 1 [kA].length (by rfl) (by simp [maxLen])).bare HB.out (HG.out.keep ((St.refl _).made _ 9 1 [kA].length (by rfl) (by simp [maxLen]))) (by decide +kernel) (eq_uniqL (by unfold Strict; decide +kernel) fun _ => Iff.rfl).symm ((St.refl _).made _ 9 1 [kA].length (by rfl) (by simp [maxLen])).sl0 (by decide) (by decide)).mono ?_
  clear HG HS
  rintro e w2 ⟨rfl, hg2, hs2⟩
  have HG := Mx.hid hg2
  have HS := Mx.hid hs2
  clear hg2 hs2
  go_wp2_with fail
  refine (add_lit kC _ [kA] [kA] 1 (HS.out.made _ 9 1 [kA].length (by rfl) (by simp [maxLen])).bare HB.out (HG.out.keep ((St.refl _).made _ 9 1 [kA].length (by rfl) (by simp [maxLen]))) (by decide +kernel) (eq_uniqL (by unfold Strict; decide +kernel) fun _ => Iff.rfl).symm ((St.refl _).made _ 9 1 [kA].length (by rfl) (by simp [maxLen])).sl0 (by decide) (by decide)).mono ?_
  clear HG HS
  rintro e w2 ⟨rfl, hg2, hs2⟩
  have HG := Mx.hid hg2
  have HS := Mx.hid hs2
  clear hg2 hs2
  go_wp2_with fail
  refine (add_lit kD _ [kB, kC] [kB, kC] 2 (HS.out.made _ 9 1 [kB, kC].length (by rfl) (by simp [maxLen])).bare HB.out (HG.out.keep ((St.refl _).made _ 9 1 [kB, kC].length (by rfl) (by simp [maxLen]))) (by decide +kernel) (eq_uniqL (by unfold Strict; decide +kernel) fun _ => Iff.rfl).symm ((St.refl _).made _ 9 1 [kB, kC].length (by rfl) (by simp [maxLen])).sl0 (by decide) (by decide)).mono ?_
  clear HG HS
  rintro e w2 ⟨rfl, hg2, hs2⟩
  have HG := Mx.hid hg2
  have HS := Mx.hid hs2
  clear hg2 hs2
  go_wp2_with fail
  refine (add_lit kE _ [kB, kC] [kB, kC] 2 (HS.out.made _ 9 1 [kB, kC].length (by rfl) (by simp [maxLen])).bare HB.out (HG.out.keep ((St.refl _).made _ 9 1 [kB, kC].length (by rfl) (by simp [maxLen]))) (by decide +kernel) (eq_uniqL (by unfold Strict; decide +kernel) fun _ => Iff.rfl).symm ((St.refl _).made _ 9 1 [kB, kC].length (by rfl) (by simp [maxLen])).sl0 (by decide) (by decide)).mono ?_
  clear HG HS
  rintro e w2 ⟨rfl, hg2, hs2⟩
  have HG := Mx.hid hg2
  have HS := Mx.hid hs2
  clear hg2 hs2
  go_wp2_with fail
  refine (bases_g g B HG.out.choose _ [kD] kE _ (HG.out.choose_spec.1.r.st ((St.refl _).made _ 9 1 1 (by rfl) (by simp [maxLen]))) HG.out.choose_spec.1.wf ((St.refl _).made _ 9 1 1 (by rfl) (by simp [maxLen])).sl0 (by decide)).mono ?_
  rw [HG.out.choose_spec.2]
  rintro e w3 (⟨v, N, S', Ma, Mb, rfl, hs3, hst, hl, ha, hb, hS, hN⟩ | ⟨rfl, _, hx⟩)
  · have hs4 := (HS.out.made _ 9 1 1 (by rfl) (by simp [maxLen])).bare.call0 hs3.bare
    have HN := Mx.hid (bases_ex hst ha hb hS hN)
    obtain ⟨pa, pc, rfl, _⟩ := id hs3.sl0.form
    have HSL := Mx.hid hs3.sl0
    have HS4 := Mx.hid hs4
    clear hs3 hst hl ha hb hS hN hs4 HS
    go_wp2_with (first | ((with_reducible show wpList _ _ _ _ _ _); refine wpl_want rfl ?_))
    refine (texts_same _ _ N [kB, kC] _ (((St.refl _).made _ 9 1 2 (by rfl) (by simp [maxLen])).old HSL.out) ((St.refl _).made _ 9 1 2 (by rfl) (by simp [maxLen])).sl0 HN).mono ?_
    rintro e w4 ⟨rfl, hs5⟩
    have HS5 := Mx.hid ((HS4.out.made _ 9 1 2 (by rfl) (by simp [maxLen])).bare.call0 hs5)
    clear hs5
    go_wp2_with fail
    go_ret
    exact ⟨rfl, HS5.out⟩
  · exfalso
    rcases hx with ⟨i, hi, hn⟩ | hn
    · rw [List.mem_singleton.1 hi] at hn
      revert hn
      decide +kernel
    · revert hn
      decide +kernel
end Go.Proofs.Ytojbdlbcaoeffaa
