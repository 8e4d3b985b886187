/- The document's ID and Valid. -/
import Derived.Test.YtcgdpchekmapfaaDoorRSum
import Derived.Test.YtcgdpchekmapfaaDoorHex
namespace Go.Proofs.YtcgdpchekmapfaaDoor
open Go.RowKit Go.Mx

theorem rid_any (v : Value) (b : List UInt8) (w : World) (hv : Sl w 1 v b.length (bs b)) (hl : b.length ≤ 140737488351232) :
    Calls Tryd.prog 30 #[v] w fun e w' => e = .returned (.string (str (hexL (sha b)))) ∧ St w w' [] [] := by
  go_enter Tryd.func30, Tryd.ntmps30
  go_wp2_with fail
  refine (rsum_any v b w hv hl).mono ?_
  rintro e w1 ⟨v1, rfl, hs1⟩
  have hl2 := sha_len b
  have hs2 := hs1.cast hl2.symm rfl
  generalize hd : sha b = d at *
  have HD := Mx.hid hd
  clear hd
  go_wp2_with fail
  refine (hex_any v1 d w1 hs2.sl0 (by omega)).mono ?_
  rintro e w2 ⟨rfl, hk⟩
  go_wp2_with fail
  go_ret
  exact ⟨by rw [HD.out]; rfl, hs2.bare.call0 hk⟩
theorem rvalid_any (s : ByteArray) (w : World) (hl : s.size ≤ 140737488355328) :
    Calls Tryd.prog 32 #[.string s] w fun e w' => e = .returned (.bool ((unhexL s.data.toList).any fun r => decide (r.length = 32))) ∧ St w w' [] [] := by
  generalize hL : s.data.toList = L at *
  have HS := Mx.hid hL
  clear hL
  go_enter Tryd.func32, Tryd.ntmps32
  go_wp2_with fail
  refine (unhex_any s w hl).mono ?_
  rintro e w1 ⟨v, rfl, hs⟩
  rw [HS.out] at hs ⊢
  cases hu : unhexL L with
  | none =>
    rw [hu] at hs
    go_wp2_with (first | ((with_reducible show wpList _ _ _ _ _ _); refine wpl_want rfl ?_))
    go_ret
    exact ⟨by rw [hu]; rfl, hs.bare⟩
  | some r =>
    rw [hu] at hs
    have hs : St w w1 [⟨v, 5, 1, r.length, bs r⟩] [] := hs
    obtain ⟨x, y, rfl, _⟩ := hs.sl0
    by_cases h32 : r.length = 32
    · go_wp2_with (first | ((with_reducible show wpList _ _ _ _ _ _); refine wpl_want rfl ?_))
      go_ret
      exact ⟨by rw [hu, show (some r).any (fun r => decide (r.length = 32)) = decide (r.length = 32) from rfl, h32]; rfl, hs.bare⟩
    · have h33 : ¬ ((r.length : Int) = 32) := by omega
      go_wp2_with (first | ((with_reducible show wpList _ _ _ _ _ _); refine wpl_want rfl ?_))
      go_ret
      exact ⟨by rw [hu, show (some r).any (fun r => decide (r.length = 32)) = decide (r.length = 32) from rfl, decide_eq_false h32]; exact congrArg (fun b => Ending.returned (.bool b)) (by simpa using h33), hs.bare⟩
end Go.Proofs.YtcgdpchekmapfaaDoor
