/- The walk of bytes.Clone. -/
import Derived.Test.YtlfdnlomlbbicaaBase
namespace Go.Proofs.Ytlfdnlomlbbicaa
open Go.RowKit Go.Mx

theorem clone_any (v : Value) (l : List UInt8) (w : World) (hv : Sl w 1 v l.length (bs l)) (hl : l.length ≤ 140737488355328) :
    Calls Try.prog 69 #[v] w fun e w' => ∃ v', e = .returned v' ∧ St w w' [⟨v', 5, 1, l.length, bs l⟩] [] := by
  obtain ⟨ao, cap, rfl, h1, h2, h3, h4, h5⟩ := id hv
  cases ao with
  | none =>
    have hz : l = [] := List.eq_nil_of_length_eq_zero (by have := h4 rfl; omega)
    subst hz
    have q22 : ∀ (w : World) (n c : Nat), (binOp .eql 22 (.slice none n c) (.slice none 0 0)).run Try.prog w = .ok (.bool true) w := fun w n c => Lib.run_eql_slice_nil w _ _ none n c 0 0 Try.underlying22
    clear hv h5
    go_enter Try.func69, Try.ntmps69
    go_wp2_with fail
    go_ret
    exact ⟨_, rfl, St.nil w 5 1⟩
  | some a =>
    have q22 : ∀ (w : World) (n c : Nat), (binOp .eql 22 (.slice (some a) n c) (.slice none 0 0)).run Try.prog w = .ok (.bool false) w := fun w n c => Lib.run_eql_slice_nil w _ _ (some a) n c 0 0 Try.underlying22
    have hs := (St.refl w).made #[] 5 1 0 rfl (by simp)
    clear h5
    go_enter Try.func69, Try.ntmps69
    go_wp2_with (at_builtin; refine wpl_app rfl _ _ 22 rfl Try.elU8 hs rfl (by exact hs.old hv) (bs_one _) (by omega) ?_; intro v1 w1 hs1 _)
    go_ret
    exact ⟨_, rfl, hs1.cast (by simp) (by simp)⟩
end Go.Proofs.Ytlfdnlomlbbicaa
