/- Walks of obj.number, hash. -/
import Derived.Test.YtobpojlophhfaaaDoorObjQ
import Derived.Test.YtobpojlophhfaaaDoorWireG
namespace Go.Proofs.YtobpojlophhfaaaDoor
open Go.RowKit Go.Mx

theorem putL_9 {n : Nat} (h : n ≤ 72057594037927936) : (putL n).length ≤ 9 := by
  have := putL_le 9 n (by have : (128 : Nat) ^ 9 = 9223372036854775808 := by decide
                          omega)
  omega

theorem put_ok (n : Nat) (w : World) (hn : n ≤ 72057594037927936) : Calls Tryd.prog 66 #[.int .i64 (n : Int)] w fun e w' => ∃ v, e = .returned (.tuple #[v, .int .i64 0]) ∧ St w w' [(⟨v, 5, 1, (putL n).length, bs (putL n)⟩ : Row)] [] :=
  (Put_any (n : Int) w (WalkArith.wf_i64 (by omega : -9223372036854775808 ≤ (n : Int) ∧ (n : Int) ≤ 9223372036854775807))).mono fun e w' h => by
    unfold PutPost at h
    rw [if_neg (by omega)] at h
    exact h

theorem number_go {w0 w : World} {R : List Row} {Q : List Rd} (v : Value) (l : List UInt8) (n : Nat) (hs : St w0 w ((⟨v, 5, 1, (l).length, bs (l)⟩ : Row) :: R) Q) (hn : n ≤ 72057594037927936) (hl : l.length ≤ 70368744177664) :
    Calls Tryd.prog 43 #[v, .int .i64 (n : Int)] w fun e w' => ∃ v', e = .returned v' ∧ St w0 w' ((⟨v', 5, 1, (l ++ putL n).length, bs (l ++ putL n)⟩ : Row) :: R) Q := by
  have h9 := putL_9 hn
  have HP := Mx.hid (fun wx => put_ok n wx hn)
  generalize putL n = p at *
  generalize (n : Int) = nn at *
  clear hn
  go_enter Tryd.func43, Tryd.ntmps43
  go_wp2_with (first | (go_at_call 66; refine (HP.out _).mono ?_; rintro e w1 ⟨x, rfl, hk⟩; have hs1 := hs.call1 hk) | (at_builtin; refine wpl_app rfl _ _ 22 rfl Tryd.elU8 hs1.swap rfl (by exact hs1.sl0) (bs_one _) (by omega) ?_; intro v2 w2 hs2 _))
  go_ret
  exact ⟨_, rfl, hs2.swap.tail.cast (by simp) (by simp [bs_app])⟩

theorem hash_go {w0 w : World} {R : List Row} {Q : List Rd} (v : Value) (l : List UInt8) (s : ByteArray) (hs : St w0 w ((⟨v, 5, 1, (l).length, bs (l)⟩ : Row) :: R) Q) (hz : s.size ≤ 140737488351232) (hv : validB s = true) (hl : l.length ≤ 70368744177664) :
    Calls Tryd.prog 44 #[v, .string s] w fun e w' => ∃ v', e = .returned v' ∧ St w0 w' ((⟨v', 5, 1, (l ++ rawL s).length, bs (l ++ rawL s)⟩ : Row) :: R) Q := by
  have h9 := raw_len hv
  have HP : Hid (∀ wx, Calls Tryd.prog 67 #[.string s] wx fun e w' => ∃ v b, e = .returned (.tuple #[v, .bool b]) ∧ St wx w' [(⟨v, 5, 1, (rawL s).length, bs (rawL s)⟩ : Row)] []) := fun wx => (sunhex_any s wx (by omega)).mono fun e w' ⟨v, h1, h2⟩ => ⟨v, _, h1, h2⟩
  generalize rawL s = p at *
  clear hv
  go_enter Tryd.func44, Tryd.ntmps44
  go_wp2_with (first | (go_at_call 67; refine (HP.out _).mono ?_; rintro e w1 ⟨x, b, rfl, hk⟩; have hs1 := hs.call1 hk) | (at_builtin; refine wpl_app rfl _ _ 22 rfl Tryd.elU8 hs1.swap rfl (by exact hs1.sl0) (bs_one _) (by omega) ?_; intro v2 w2 hs2 _))
  go_ret
  exact ⟨_, rfl, hs2.swap.tail.cast (by simp) (by simp [bs_app])⟩
end Go.Proofs.YtobpojlophhfaaaDoor
