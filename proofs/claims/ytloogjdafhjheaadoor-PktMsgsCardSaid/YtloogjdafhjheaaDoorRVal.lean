/- The document's Valid. -/
import Derived.Test.YtloogjdafhjheaaDoorHex
namespace Go.Proofs.YtloogjdafhjheaaDoor
open Go.RowKit Go.Mx

theorem rvalid_any (s : ByteArray) (w : World) (hl : s.size ≤ 140737488355328) :
    Calls Tryd.prog 36 #[.string s] w fun e w' => e = .returned (.bool ((unhexL s.data.toList).any fun r => decide (r.length = 32))) ∧ St w w' [] [] := by
  generalize hL : s.data.toList = L at *
  have HS := Mx.hid hL
  clear hL
  go_enter Tryd.func36, Tryd.ntmps36
  go_wp2_with fail
  refine (unhex_any s w hl).mono ?_
  rintro e w1 ⟨v, rfl, hs⟩
  rw [HS.out] at hs ⊢
  cases hu : unhexL L with
  | none =>
    rw [hu] at hs
    go_wp2_with (first | ((with_reducible show wpList _ _ _ _ _ _); refine wpl_want rfl ?_))
    go_ret
    exact ⟨by rw [hu]; rfl, hs.bare⟩
  | some r =>
    rw [hu] at hs
    have hs : St w w1 [⟨v, 5, 1, r.length, bs r⟩] [] := hs
    obtain ⟨x, y, rfl, _⟩ := hs.sl0
    by_cases h32 : r.length = 32
    · go_wp2_with (first | ((with_reducible show wpList _ _ _ _ _ _); refine wpl_want rfl ?_))
      go_ret
      exact ⟨by rw [hu, show (some r).any (fun r => decide (r.length = 32)) = decide (r.length = 32) from rfl, h32]; rfl, hs.bare⟩
    · have h33 : ¬ ((r.length : Int) = 32) := by omega
      go_wp2_with (first | ((with_reducible show wpList _ _ _ _ _ _); refine wpl_want rfl ?_))
      go_ret
      exact ⟨by rw [hu, show (some r).any (fun r => decide (r.length = 32)) = decide (r.length = 32) from rfl, decide_eq_false h32]; exact congrArg (fun b => Ending.returned (.bool b)) (by simpa using h33), hs.bare⟩
end Go.Proofs.YtloogjdafhjheaaDoor
