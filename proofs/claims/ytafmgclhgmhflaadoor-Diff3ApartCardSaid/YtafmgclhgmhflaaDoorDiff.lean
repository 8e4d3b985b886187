/- Walks of lines.Diff and of the document's Diff. -/
import Derived.Test.YtafmgclhgmhflaaDoorMatch
import Derived.Test.YtafmgclhgmhflaaDoorEd
namespace Go.Proofs.YtafmgclhgmhflaaDoor
open Go.RowKit Go.Mx


theorem sclone_any (v : Value) (l : List ByteArray) (w : World) (hv : Sl w 1 v l.length (ss l)) (hl : l.length ≤ 8796093022208) :
    Calls Tryd.prog 36 #[v] w fun e w' => ∃ v', e = .returned v' ∧ St w w' [⟨v', 9, 1, l.length, ss l⟩] [] := by
  have q := fun (w : World) (a : Option Addr) (n c n' c' : Nat) => Lib.run_eql_slice_nil (P := Tryd.prog) w 22 _ a n c n' c' Tryd.underlying22
  have hv0 := hv
  obtain ⟨ao, cap, blk, off, rfl, h1, h2, _, hc⟩ := hv.txt
  cases ao with
  | none =>
    have hnil : l = [] := by
      cases l with
      | nil => rfl
      | cons x l => exact absurd (hc 0 (by simp)).1 (by simp)
    subst hnil
    clear hc hv0
    go_enter Tryd.func36, Tryd.ntmps36
    go_wp2_with fail
    go_ret
    exact ⟨_, rfl, St.nil _ _ _⟩
  | some a =>
    have hs := (St.refl w).made #[] 9 1 0 rfl (by simp)
    clear hc
    have HV := Mx.hid hv0
    clear hv0
    go_enter Tryd.func36, Tryd.ntmps36
    go_wp2_with (at_builtin; refine wpl_app rfl _ _ 22 rfl Tryd.elStr hs rfl (by exact hs.old HV.out) (ss_one _) (by omega) ?_; intro v1 w1 hs1 _)
    go_ret
    exact ⟨_, rfl, hs1.cast (by simp) (by simp)⟩

def dE (a b : List ByteArray) : List Ed := if 200 < a.length ∨ 200 < b.length then [] else eds b (mpairs a b 0 0 ++ [(a.length, b.length)]) 0 0
def DiffPost (a b : List ByteArray) (w : World) (e : Ending) (w' : World) : Prop :=
  ∃ v, e = .returned (.tuple #[v, .int .i64 (mE a b)]) ∧ St w w' [] [] ∧ ED w' v (dE a b)
theorem DiffPost.bad {a b : List ByteArray} {w w' : World} (h : 200 < a.length ∨ 200 < b.length) (hs : St w w' [] []) : DiffPost a b w (.returned (.tuple #[.slice none 0 0, .int .i64 14])) w' := by
  unfold DiffPost dE mE
  rw [if_pos h, if_pos h]
  exact ⟨_, rfl, hs, ED.nil _⟩
theorem DiffPost.good {a b : List ByteArray} {w w1 w' : World} {v : Value} {e0 : TypeId} {vs : List Value} {es : List Ed} (h : ¬ (200 < a.length ∨ 200 < b.length)) (hp : es = eds b (mpairs a b 0 0 ++ [(a.length, b.length)]) 0 0) (h1 : St w w1 [] []) (hs : St w1 w' [⟨v, e0, 3, es.length, edc vs es⟩] (rdt vs es)) (hl : vs.length = es.length) :
    DiffPost a b w (.returned (.tuple #[v, .int .i64 0])) w' := by
  unfold DiffPost dE mE
  rw [if_neg h, if_neg h, ← hp]
  exact ⟨_, rfl, h1.call0 hs.bare.noQ, ED.ofSt hs hl⟩

end Go.Proofs.YtafmgclhgmhflaaDoor
