/- The document's ID. -/
import Derived.Test.YtlfdnlomlbbicaaRSum
import Derived.Test.YtlfdnlomlbbicaaHex
import Derived.Test.YtlfdnlomlbbicaaRVal
namespace Go.Proofs.Ytlfdnlomlbbicaa
open Go.RowKit Go.Mx

theorem rid_any (v : Value) (b : List UInt8) (w : World) (hv : Sl w 1 v b.length (bs b)) (hl : b.length ≤ 140737488351232) :
    Calls Try.prog 55 #[v] w fun e w' => e = .returned (.string (str (hexL (sha b)))) ∧ St w w' [] [] := by
  go_enter Try.func55, Try.ntmps55
  go_wp2_with fail
  refine (rsum_any v b w hv hl).mono ?_
  rintro e w1 ⟨v1, rfl, hs1⟩
  have hl2 := sha_len b
  have hs2 := hs1.cast hl2.symm rfl
  generalize hd : sha b = d at *
  have HD := Mx.hid hd
  clear hd
  go_wp2_with fail
  refine (hex_any v1 d w1 hs2.sl0 (by omega)).mono ?_
  rintro e w2 ⟨rfl, hk⟩
  go_wp2_with fail
  go_ret
  exact ⟨by rw [HD.out]; rfl, hs2.bare.call0 hk⟩
end Go.Proofs.Ytlfdnlomlbbicaa
