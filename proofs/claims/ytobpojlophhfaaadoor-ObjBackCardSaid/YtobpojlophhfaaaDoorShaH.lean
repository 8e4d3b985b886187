/- The walk of sha.ID. -/
import Derived.Test.YtobpojlophhfaaaDoorShaO
import Derived.Test.YtobpojlophhfaaaDoorJ2Hex
namespace Go.Proofs.YtobpojlophhfaaaDoor
open Go.RowKit Go.Mx

theorem id_any (v : Value) (b : List UInt8) (w : World) (hv : Sl w 1 v b.length (bs b)) (hl : b.length ≤ 140737488351232) (hL : ∀ w', St w w' [] [] → Laid w') :
    Calls Tryd.prog 17 #[v] w fun e w' => e = .returned (.string (str (hexL (sha b)))) ∧ St w w' [] [] := by
  have HL := Mx.hid hL
  clear hL
  go_enter Tryd.func17, Tryd.ntmps17
  go_wp2_with fail
  refine (sum_any w v b hv hl HL.out).mono ?_
  rintro e w1 ⟨v1, rfl, hs1⟩
  have hl2 := sha_len b
  have hs2 := hs1.cast hl2.symm rfl
  generalize hd : sha b = d at *
  have HD := Mx.hid hd
  clear hd
  go_wp2_with fail
  refine (shex_any v1 d w1 hs2.sl0 (by omega)).mono ?_
  rintro e w2 ⟨rfl, hk⟩
  go_wp2_with fail
  go_ret
  exact ⟨by rw [HD.out]; rfl, hs2.bare.call0 hk⟩
end Go.Proofs.YtobpojlophhfaaaDoor
