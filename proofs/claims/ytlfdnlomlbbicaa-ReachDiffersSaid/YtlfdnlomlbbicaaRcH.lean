/- reach.Whole at 2000 over a Few source; what a source tells, read. -/
import Derived.Test.YtlfdnlomlbbicaaJARcC
import Derived.Test.YtlfdnlomlbbicaaJGO6U
namespace Go.Mx
open Go Go.RowKit
theorem clo_told {f : ByteArray → Option (List UInt8)} {a M M' : List ByteArray} (h : CloN (nbF f) a M) (hn : M.Nodup) (h' : CloN (nbF f) a M') (hn' : M'.Nodup) : sortL (toldL f M) = sortL (toldL f M') :=
  strict_eq (strict_sort (told_nodup hn)) (strict_sort (told_nodup hn')) fun x => by rw [(sortL_perm _).mem_iff, (sortL_perm _).mem_iff, mem_told, mem_told, h.eq h' x]
theorem clo_lack {f : ByteArray → Option (List UInt8)} {a M M' : List ByteArray} (h : CloN (nbF f) a M) (hn : M.Nodup) (h' : CloN (nbF f) a M') (hn' : M'.Nodup) : sortL (lackL f M) = sortL (lackL f M') :=
  strict_eq (strict_sort (lack_nodup hn)) (strict_sort (lack_nodup hn')) fun x => by rw [(sortL_perm _).mem_iff, (sortL_perm _).mem_iff, mem_lack, mem_lack, h.eq h' x]
theorem sort_nil {l : List ByteArray} : sortL l = [] ↔ l = [] := by rw [← List.length_eq_zero_iff, sortL_len, List.length_eq_zero_iff]
theorem strict_rises : ∀ {l : List ByteArray}, Strict l → risesB l = true
  | [], _ => rfl
  | [_], _ => rfl
  | a :: b :: r, h => by
    rw [risesB, Bool.and_eq_true]
    exact ⟨(List.pairwise_cons.1 h).1 b (List.mem_cons_self ..), strict_rises (List.pairwise_cons.1 h).2⟩
theorem CloN.ids {nb : ByteArray → List ByteArray} {ids M : List ByteArray} (h : CloN nb ids M) : ∀ i ∈ ids, i ∈ M := fun i hi => (h i).2 ⟨i, hi, .refl i⟩
theorem CloN.next {nb : ByteArray → List ByteArray} {ids M : List ByteArray} (h : CloN nb ids M) {x p : ByteArray} (hx : x ∈ M) (hp : p ∈ nb x) : p ∈ M := by
  obtain ⟨i, hi, hr⟩ := (h x).1 hx
  exact (h p).2 ⟨i, hi, (Rea.step hp (.refl p)).trans hr⟩
theorem both_mem {f : ByteArray → Option (List UInt8)} {M : List ByteArray} {x : ByteArray} : x ∈ sortL (toldL f M) ++ sortL (lackL f M) ↔ x ∈ M := by
  rw [List.mem_append, (sortL_perm _).mem_iff, (sortL_perm _).mem_iff, mem_told, mem_lack]
  cases tellB f x <;> simp
theorem both_nodup {f : ByteArray → Option (List UInt8)} {M : List ByteArray} (h : M.Nodup) : (sortL (toldL f M) ++ sortL (lackL f M)).Nodup := by
  refine List.nodup_append.2 ⟨(strict_sort (told_nodup h)).nodup, (strict_sort (lack_nodup h)).nodup, fun a ha b hb e => ?_⟩
  subst e
  rw [(sortL_perm _).mem_iff, mem_told] at ha
  rw [(sortL_perm _).mem_iff, mem_lack] at hb
  rw [ha.2] at hb
  cases hb.2
theorem uniq_len {l : List ByteArray} (h : l.Nodup) : (uniqL l).length = l.length := by
  rw [← sort_uniq h (T := l) fun x => Iff.rfl, sortL_len]
end Go.Mx
namespace Go.Proofs.Ytlfdnlomlbbicaa
open Go.RowKit Go.Mx
def WholeAns (f : ByteArray → Option (List UInt8)) (a : List ByteArray) (w : World) (e : Ending) (w' : World) : Prop :=
  ∃ M, CloN (nbF f) a M ∧ M.Nodup ∧ e = .returned (.bool (decide ((lackL f M).length = 0))) ∧ St w w' [] []
set_option maxRecDepth 100000 in
theorem whole2000 (g2 g3 g5 : Nat) (l : List (List UInt8)) (lie : Bool) (va : Value) (a : List ByteArray) (w : World) (h : SM w g2 g3 g5 l lie) (hz : ∀ x ∈ l, x.length ≤ 1500) (hl : l.length ≤ 40) (hsum : (l.map List.length).sum ≤ 6000) (ha : Sl w 1 va a.length (ss a)) (hal : a.length ≤ 20) :
    Calls Try.prog 32 #[.func (Fn.func 56) #[] #[.pointer (some ⟨g2, 0, none⟩), .pointer (some ⟨g3, 0, none⟩), .pointer (some ⟨g5, 0, none⟩)], va, .int .i64 2000] w (WholeAns (srcF l lie) a w) := by
  have HCL := Mx.hid (fun wx v ids (h : SM wx g2 g3 g5 l lie) (hv : Sl wx 1 v ids.length (ss ids)) (hil : ids.length ≤ 1000) => clo2000 g2 g3 g5 l lie v ids wx h hz hl hsum hv hil)
  have HA := Mx.hid ha
  obtain ⟨ao, ac, rfl, _⟩ := ha.form
  clear ha hz hl hsum
  generalize srcF l lie = f at *
  go_enter Try.func32, Try.ntmps32
  go_wp2_with fail
  refine (HCL.out _ _ a h HA.out (by omega)).mono ?_
  rintro e w1 ⟨vx, vp, M, rfl, h1, hcM, hnM, hlM⟩
  obtain ⟨xo, xc, rfl, _⟩ := id h1.sl0
  obtain ⟨po, pc, rfl, _⟩ := id h1.sl1
  have HP := Mx.hid (And.intro hcM hnM)
  clear hcM hnM
  by_cases hz0 : (lackL f M).length = 0
  · go_wp2_with fail
    go_ret
    exact ⟨M, HP.out.1, HP.out.2, by rw [decide_eq_true hz0]; rfl, h1.bare⟩
  · have hz1 : ¬ ((lackL f M).length : Int) = 0 := by omega
    have hz2 : (((lackL f M).length : Int) == 0) = false := by simpa using hz1
    go_wp2_with fail
    go_ret
    exact ⟨M, HP.out.1, HP.out.2, by rw [decide_eq_false hz0]; simp, h1.bare⟩
/-- What a source tells, and what is read of it. -/
def SrcUni (f : ByteArray → Option (List UInt8)) (id : ByteArray) (w : World) (e : Ending) (w' : World) : Prop :=
  ∃ v b ok, e = .returned (.tuple #[v, .bool ok]) ∧ Sl w' 1 v b.length (bs b) ∧ St w w' [] [] ∧ b.length ≤ 1500 ∧
    ((ok = true ∧ (decO b).2 = 0 ∧ tellB f id = true ∧ nbF f id = refsL (decO b).1 ∧ mayB (decO b).1 = true) ∨
     (tellB f id = false ∧ (decO b).1 = noOb ∧ ((ok = true ∧ (decO b).2 = 4) ∨ (decO b).2 = 2)))
theorem src_uni (g2 g3 g5 : Nat) (l : List (List UInt8)) (lie : Bool) (id : ByteArray) (w : World) (h : SM w g2 g3 g5 l lie) (hz : ∀ x ∈ l, x.length ≤ 1500) (hl : l.length ≤ 40) :
    Calls Try.prog 56 #[.string id, .pointer (some ⟨g2, 0, none⟩), .pointer (some ⟨g3, 0, none⟩), .pointer (some ⟨g5, 0, none⟩)] w (SrcUni (srcF l lie) id w) := by
  refine (src_any g2 g3 g5 l lie id w h (fun x hx => by have := hz x hx; omega) (by omega)).mono fun e w' he => ?_
  unfold SourceAns at he
  cases hf : srcF l lie id with
  | none =>
    rw [hf] at he
    obtain ⟨rfl, hs⟩ := he
    exact ⟨_, [], false, rfl, Sl.nil _ _, hs, by simp, .inr ⟨by unfold tellB; rw [hf]; rfl, rfl, .inr rfl⟩⟩
  | some b =>
    rw [hf] at he
    obtain ⟨v, rfl, hs⟩ := he
    have hb : b.length ≤ 1500 := hz b (srcI_mem (by unfold srcF at hf; exact hf))
    refine ⟨v, b, true, rfl, hs.sl0, hs.bare, hb, ?_⟩
    rcases dec_cases b with ⟨_, hd⟩ | ⟨_, hd⟩ | ⟨o, hd, hm, _⟩
    · exact .inr ⟨by unfold tellB obO; rw [hf]; simp [hd], by rw [hd], .inr (by rw [hd])⟩
    · exact .inr ⟨by unfold tellB obO; rw [hf]; simp [hd], by rw [hd], .inl ⟨rfl, by rw [hd]⟩⟩
    · have ht : tellB (srcF l lie) id = true := by unfold tellB obO; rw [hf]; simp [hd]
      exact .inl ⟨rfl, by rw [hd], ht, by unfold nbF; rw [if_pos ht]; unfold obO; rw [hf], by rw [hd]; exact hm⟩
end Go.Proofs.Ytlfdnlomlbbicaa
