/- What Chunks tells. -/
import Derived.Test.YtafmgclhgmhflaaDoorD3K
import Derived.Test.YtafmgclhgmhflaaDoorD3C
import Derived.Test.YtafmgclhgmhflaaDoorLibA
import Derived.Test.YtafmgclhgmhflaaDoorHeld
namespace Go.Proofs.YtafmgclhgmhflaaDoor
open Go.RowKit Go.Mx

def chE (o a b : List ByteArray) : Int := if 200 < o.length ∨ 200 < a.length ∨ 200 < b.length then 14 else 0
def chC (o a b : List ByteArray) : List Ck := if 200 < o.length ∨ 200 < a.length ∨ 200 < b.length then [] else chk o a b
def ChPost (o a b : List ByteArray) (w : World) (e : Ending) (w' : World) : Prop :=
  ∃ v, e = .returned (.tuple #[v, .int .i64 (chE o a b)]) ∧ St w w' [] [] ∧ CK w' v (chC o a b)
theorem ChPost.bad {o a b : List ByteArray} {w w' : World} (h : 200 < o.length ∨ 200 < a.length ∨ 200 < b.length) (hs : St w w' [] []) : ChPost o a b w (.returned (.tuple #[.slice none 0 0, .int .i64 14])) w' := by
  unfold ChPost chE chC
  rw [if_pos h, if_pos h]
  exact ⟨_, rfl, hs, CK.nil _⟩
theorem ChPost.good {o a b : List ByteArray} {w w1 w' : World} {v : Value} (h : ¬ (200 < o.length ∨ 200 < a.length ∨ 200 < b.length)) (h1 : St w w1 [] []) (hs : St w1 w' [] []) (hc : CK w' v (chk o a b)) : ChPost o a b w (.returned (.tuple #[v, .int .i64 0])) w' := by
  unfold ChPost chE chC
  rw [if_neg h, if_neg h]
  exact ⟨_, rfl, h1.call0 hs, hc⟩
theorem flu_len (run : List ByteArray) : (flu run).length ≤ 1 := by unfold flu; split <;> simp
theorem gap_len (o a b : List ByteArray) : (gap o a b).length ≤ 1 := by unfold gap; split <;> simp
end Go.Proofs.YtafmgclhgmhflaaDoor
