/- marlaw6.ObjUnlike. -/
import Derived.Test.YtlfdnlomlbbicaaO6F
import Derived.Test.YtlfdnlomlbbicaaRowOb
namespace Go.Proofs.Ytlfdnlomlbbicaa
open Go.RowKit Go.Mx

theorem enc_yes {dv iv pv : Value} {o : Ob} {w : World} (h : OB w dv iv pv o) (hz : OZ o) (hm : mayB o = true) : Calls Try.prog 10 #[OV dv iv pv o] w fun e w' => ∃ v, e = .returned (.tuple #[v, .int .i64 0]) ∧ St w w' [(⟨v, 5, 1, (encL o).length, bs (encL o)⟩ : Row)] [] :=
  (encode_any dv iv pv o w h hz).mono fun e w' he => by unfold EncPost at he; rw [if_pos hm] at he; exact he
theorem enc_no {dv iv pv : Value} {o : Ob} {w : World} (h : OB w dv iv pv o) (hz : OZ o) (hm : mayB o = false) : Calls Try.prog 10 #[OV dv iv pv o] w fun e w' => e = .returned (.tuple #[.slice none 0 0, .int .i64 1]) ∧ St w w' [] [] :=
  (encode_any dv iv pv o w h hz).mono fun e w' he => by unfold EncPost at he; rw [if_neg (by simp [hm])] at he; exact he
theorem same_sym (a b : Ob) : sameB b a = sameB a b := by
  rw [Bool.eq_iff_iff, sameB_iff, sameB_iff]
  exact ⟨Eq.symm, Eq.symm⟩
theorem same_enc {a b : Ob} (ha : mayB a = true) (hb : mayB b = true) : decide (encL a = encL b) = sameB a b := by
  rw [Bool.eq_iff_iff, sameB_iff, decide_eq_true_iff]
  exact ⟨enc_inj ha hb, fun h => by rw [h]⟩

end Go.Proofs.Ytlfdnlomlbbicaa
