/- The plain laws of chapter 11: bases, tops, growing (no program in sight). -/
import Derived.Test.YtojbdlbcaoeffaaDagT
namespace Go.Mx
open Go Go.RowKit
theorem Anc.top {L : List Nd} {x y : ByteArray} (h : Anc L x y) (hne : x ≠ y) : ∃ z n, fnd L z = some n ∧ x ∈ n.1 ∧ Anc L z y := by
  induction h with
  | refl => exact absurd rfl hne
  | @step p y n h1 h2 ha ih =>
    by_cases hx : x = p
    · subst hx
      exact ⟨y, n, h1, h2, .refl y⟩
    · obtain ⟨z, m, hz, hm, hzz⟩ := ih hx
      exact ⟨z, m, hz, hm, .step h1 h2 hzz⟩
def Closed (L : List Nd) (S : List ByteArray) : Prop := (∀ s ∈ S, ∃ n, fnd L s = some n) ∧ ∀ s ∈ S, ∀ x, Anc L x s → x ∈ S
theorem Clo.closed {L : List Nd} (hw : WF L) {ids M : List ByteArray} (h : Clo L ids M) : Closed L M :=
  ⟨h.isin hw, fun s hs x hx => by obtain ⟨i, hi, ha⟩ := (h.2 s).1 hs; exact (h.2 x).2 ⟨i, hi, hx.trans ha⟩⟩
theorem Closed.inter {L : List Nd} {A B S : List ByteArray} (ha : Closed L A) (hb : Closed L B) (h : ∀ x, x ∈ S ↔ x ∈ A ∧ x ∈ B) : Closed L S :=
  ⟨fun s hs => ha.1 s ((h s).1 hs).1, fun s hs x hx => (h x).2 ⟨ha.2 s ((h s).1 hs).1 x hx, hb.2 s ((h s).1 hs).2 x hx⟩⟩
theorem near_sep {L : List Nd} {S N : List ByteArray} (hc : Closed L S) (hn : Near L S N) {x y : ByteArray} (hx : x ∈ N) (hy : y ∈ S) (ha : Anc L x y) : x = y := by
  by_cases hne : x = y
  · exact hne
  · obtain ⟨z, n, hz, hxz, hzy⟩ := ha.top hne
    exact absurd hxz (((hn x).1 hx).2 z (hc.2 y hy z hzy) n hz)
theorem stamp_max (L : List Nd) (S : List ByteArray) : ∃ K : Int, ∀ s ∈ S, stampL L s ≤ K := by
  induction S with
  | nil => exact ⟨0, by simp⟩
  | cons a S ih =>
    obtain ⟨K, hK⟩ := ih
    refine ⟨max K (stampL L a), fun s hs => ?_⟩
    rcases List.mem_cons.1 hs with rfl | hs
    · omega
    · have := hK s hs; omega
theorem near_top {L : List Nd} (hw : WF L) {S N : List ByteArray} (hn : Near L S N) {x : ByteArray} (hx : x ∈ S) : ∃ t ∈ N, Anc L x t := by
  obtain ⟨K, hK⟩ := stamp_max L S
  have key : ∀ (d : Nat) (x : ByteArray), x ∈ S → (K - stampL L x).toNat ≤ d → ∃ t ∈ N, Anc L x t := by
    intro d
    induction d with
    | zero =>
      intro x hx hd
      refine ⟨x, (hn x).2 ⟨hx, fun m hm n hmn hp => ?_⟩, .refl x⟩
      obtain ⟨r, hr, hl⟩ := (hw.par hmn).1 x hp
      have h1 := hK m hm
      have h2 : stampL L x = r.2 := by unfold stampL; rw [hr]
      have h3 : stampL L m = n.2 := by unfold stampL; rw [hmn]
      omega
    | succ d ih =>
      intro x hx hd
      by_cases hN : x ∈ N
      · exact ⟨x, hN, .refl x⟩
      · have : ∃ m ∈ S, ∃ n, fnd L m = some n ∧ x ∈ n.1 := by
          apply Classical.byContradiction
          intro hno
          exact hN ((hn x).2 ⟨hx, fun m hm n hmn hp => hno ⟨m, hm, n, hmn, hp⟩⟩)
        obtain ⟨m, hm, n, hmn, hp⟩ := this
        obtain ⟨r, hr, hl⟩ := (hw.par hmn).1 x hp
        have h1 := hK m hm
        have h2 : stampL L x = r.2 := by unfold stampL; rw [hr]
        have h3 : stampL L m = n.2 := by unfold stampL; rw [hmn]
        obtain ⟨t, ht, ha⟩ := ih m hm (by omega)
        exact ⟨t, ht, (Anc.step hmn hp (.refl x)).trans ha⟩
  exact key _ x hx (Nat.le_refl _)
theorem near_eq {L : List Nd} {S S' N N' : List ByteArray} (hS : ∀ x, x ∈ S ↔ x ∈ S') (h : Near L S N) (h' : Near L S' N') (hs : Strict N) (hs' : Strict N') : N = N' :=
  strict_eq hs hs' fun x => by
    rw [h x, h' x, hS x]
    exact and_congr_right fun _ => forall_congr' fun m => by rw [hS m]
/-- Tops. -/
structure TopsFact (L : List Nd) (ids N : List ByteArray) : Prop where
  come : ∀ a ∈ ids, ∃ t ∈ N, Anc L a t
  sep : ∀ a ∈ N, ∀ b ∈ N, Anc L a b → a = b
  of : ∀ a ∈ N, a ∈ ids
  isin : ∀ a ∈ N, ∃ n, fnd L a = some n
  again : ∀ M' N', Clo L N M' → Near L M' N' → Strict N' → N' = N
theorem tops_fact {L : List Nd} (hw : WF L) {ids M N : List ByteArray} (hc : Clo L ids M) (hn : Near L M N) (hs : Strict N) : TopsFact L ids N where
  come a ha := near_top hw hn ((hc.2 a).2 ⟨a, ha, .refl a⟩)
  sep a ha b hb h := near_sep (hc.closed hw) hn ha ((hn b).1 hb).1 h
  of a ha := by
    obtain ⟨i, hi, hx⟩ := (hc.2 a).1 ((hn a).1 ha).1
    rw [near_sep (hc.closed hw) hn ha ((hc.2 i).2 ⟨i, hi, .refl i⟩) hx]
    exact hi
  isin a ha := hc.isin hw a ((hn a).1 ha).1
  again M' N' hc' hn' hs' := by
    refine near_eq (fun x => ?_) hn' hn hs' hs
    rw [hc'.2 x, hc.2 x]
    constructor
    · rintro ⟨i, hi, h⟩
      obtain ⟨j, hj, h2⟩ := (hc.2 i).1 ((hn i).1 hi).1
      exact ⟨j, hj, h.trans h2⟩
    · rintro ⟨i, hi, h⟩
      obtain ⟨t, ht, h2⟩ := near_top hw hn ((hc.2 i).2 ⟨i, hi, .refl i⟩)
      exact ⟨t, ht, h.trans h2⟩
/-- Bases of two. -/
structure BasesFact (L : List Nd) (a b : ByteArray) (N : List ByteArray) : Prop where
  of : ∀ x ∈ N, Anc L x a ∧ Anc L x b
  isin : ∀ x ∈ N, ∃ n, fnd L x = some n
  sep : ∀ x ∈ N, ∀ y ∈ N, Anc L x y → x = y
  come : ∀ x, Anc L x a → Anc L x b → ∃ t ∈ N, Anc L x t
  one : Anc L a b → N = [a]
theorem mem_one {L : List Nd} {a : ByteArray} {M : List ByteArray} (h : Clo L [a] M) (x : ByteArray) : x ∈ M ↔ Anc L x a := by
  rw [h.2 x]
  exact ⟨fun ⟨i, hi, ha⟩ => by rw [List.mem_singleton.1 hi] at ha; exact ha, fun h => ⟨a, by simp, h⟩⟩
theorem bases_fact {L : List Nd} (hw : WF L) {a b : ByteArray} {N S Ma Mb : List ByteArray} (hs : Strict N) (ha : Clo L [a] Ma) (hb : Clo L [b] Mb) (hS : ∀ x, x ∈ S ↔ x ∈ Ma ∧ x ∈ Mb) (hn : Near L S N) : BasesFact L a b N := by
  have hS2 : ∀ x, x ∈ S ↔ Anc L x a ∧ Anc L x b := fun x => by rw [hS x, mem_one ha x, mem_one hb x]
  have hc := (ha.closed hw).inter (hb.closed hw) hS
  refine ⟨fun x hx => (hS2 x).1 ((hn x).1 hx).1, fun x hx => hc.1 x ((hn x).1 hx).1, fun x hx y hy h => near_sep hc hn hx ((hn y).1 hy).1 h, fun x h1 h2 => near_top hw hn ((hS2 x).2 ⟨h1, h2⟩), fun hab => ?_⟩
  have haS : a ∈ S := (hS2 a).2 ⟨.refl a, hab⟩
  refine strict_eq hs (by unfold Strict; simp) fun x => ?_
  rw [List.mem_singleton]
  constructor
  · intro hx
    exact near_sep hc hn hx haS ((hS2 x).1 ((hn x).1 hx).1).1
  · rintro rfl
    obtain ⟨t, ht, h⟩ := near_top hw hn haS
    have h2 := ((hS2 t).1 ((hn t).1 ht).1).1
    obtain ⟨n, hn'⟩ := hc.1 t ((hn t).1 ht).1
    rw [h.antisymm hw h2 hn']
    exact ht
theorem bases_swap {L : List Nd} {a b : ByteArray} {N S Ma Mb N' S' Ma' Mb' : List ByteArray} (hs : Strict N) (ha : Clo L [a] Ma) (hb : Clo L [b] Mb) (hS : ∀ x, x ∈ S ↔ x ∈ Ma ∧ x ∈ Mb) (hn : Near L S N)
    (hs' : Strict N') (ha' : Clo L [b] Ma') (hb' : Clo L [a] Mb') (hS' : ∀ x, x ∈ S' ↔ x ∈ Ma' ∧ x ∈ Mb') (hn' : Near L S' N') : N = N' :=
  near_eq (fun x => by rw [hS x, hS' x, mem_one ha x, mem_one hb x, mem_one ha' x, mem_one hb' x, and_comm]) hn hn' hs hs'
/-- A graph that says the same of those that are in it. -/
structure Grew (L L' : List Nd) (k : ByteArray) : Prop where
  old : ∀ x, x ≠ k → fnd L' x = fnd L x
  anc : ∀ x y, y ≠ k → (∃ n, fnd L y = some n) → (Anc L' x y ↔ Anc L x y)
theorem Grew.same (L : List Nd) (k : ByteArray) : Grew L L k := ⟨fun _ _ => rfl, fun _ _ _ _ => Iff.rfl⟩
theorem Grew.add {L : List Nd} {n : Nd} (hw : WF (L ++ [n])) (hn : fnd L n.1 = none) : Grew L (L ++ [n]) n.1 where
  old x hx := by
    rw [fnd_app, fnd, if_neg (Ne.symm hx)]
    simp [fnd]
  anc x y _ hy := ⟨fun h => anc_new hw hn h hy, fun h => h.grow⟩
theorem Grew.bases {L L' : List Nd} {k a b : ByteArray} (h : Grew L L' k) (hw : WF L) (hk : fnd L k = none) (ha : a ≠ k) (hb : b ≠ k) {N S Ma Mb N' S' Ma' Mb' : List ByteArray} (hs : Strict N) (hca : Clo L [a] Ma) (hcb : Clo L [b] Mb) (hS : ∀ x, x ∈ S ↔ x ∈ Ma ∧ x ∈ Mb) (hn : Near L S N)
    (hs' : Strict N') (hca' : Clo L' [a] Ma') (hcb' : Clo L' [b] Mb') (hS' : ∀ x, x ∈ S' ↔ x ∈ Ma' ∧ x ∈ Mb') (hn' : Near L' S' N') : N = N' := by
  have hSS : ∀ x, x ∈ S ↔ x ∈ S' := fun x => by
    rw [hS x, hS' x, mem_one hca x, mem_one hcb x, mem_one hca' x, mem_one hcb' x, h.anc x a ha (hca.1 a (by simp)), h.anc x b hb (hcb.1 b (by simp))]
  have hin := ((hca.closed hw).inter (hcb.closed hw) hS).1
  refine strict_eq hs hs' fun x => ?_
  rw [hn x, hn' x, hSS x]
  refine and_congr_right fun _ => forall_congr' fun m => ?_
  rw [← hSS m]
  refine imp_congr_right fun hm => ?_
  have hmk : m ≠ k := by
    rintro rfl
    obtain ⟨n, hn⟩ := hin m hm
    rw [hk] at hn
    cases hn
  rw [h.old m hmk]
theorem Grew.is {L L' : List Nd} {k a b : ByteArray} (h : Grew L L' k) (hb : b ≠ k) : (Anc L' a b ∧ ∃ n, fnd L' b = some n) ↔ (Anc L a b ∧ ∃ n, fnd L b = some n) := by
  rw [h.old b hb]
  constructor
  · rintro ⟨h1, h2⟩; exact ⟨(h.anc a b hb h2).1 h1, h2⟩
  · rintro ⟨h1, h2⟩; exact ⟨(h.anc a b hb h2).2 h1, h2⟩
/-- What the new one comes from. -/
theorem new_anc {L : List Nd} {k : ByteArray} {ps us : List ByteArray} {s : Int} (hw : WF (L ++ [(k, us, s)])) (hk : fnd L k = none) (hu : ∀ x, x ∈ us ↔ x ∈ ps) {M M' : List ByteArray} (hM : Clo L ps M) (hM' : Clo (L ++ [(k, us, s)]) [k] M') (hs : Strict M') : M' = uniqL (M ++ [k]) := by
  have hf : fnd (L ++ [(k, us, s)]) k = some (us, s) := by rw [fnd_app, hk]; simp [fnd]
  refine eq_uniqL hs fun x => ?_
  rw [mem_one hM' x, List.mem_append, List.mem_singleton, hM.2 x]
  constructor
  · intro h
    by_cases hx : x = k
    · exact .inr hx
    · left
      cases h with
      | refl => exact absurd rfl hx
      | @step p _ n h1 h2 h3 =>
        rw [hf] at h1
        cases h1
        have hp := (hu p).1 h2
        exact ⟨p, hp, anc_new hw hk h3 (hM.1 p hp)⟩
  · rintro (⟨i, hi, h⟩ | rfl)
    · exact .step hf ((hu i).2 hi) h.grow
    · exact .refl _
end Go.Mx
