/- The walks of package wire. -/
import Derived.Test.YtobpojlophhfaaaBase
import Derived.Test.YtobpojlophhfaaaWireP
namespace Go.Proofs.Ytobpojlophhfaaa
open Go.RowKit Go.Mx

theorem or128_nat : ∀ n : Nat, n < 256 → n ||| 128 = n % 128 + 128 := by decide +kernel
theorem or128 (m : Nat) : bits BinOp.or IntKind.u8 ((m : Int) % 256) 128 = ((UInt8.ofNat (m % 128 + 128)).toNat : Int) := by
  rw [u8_or _ _ (by omega) (by omega) (by omega) (by omega), show Int.toNat 128 = 128 from rfl, or128_nat _ (by omega), u8_nat (by omega)]
  omega

set_option maxHeartbeats 400000 in
theorem put_any (n : Nat) (w : World) (hn : n ≤ 72057594037927936) :
    Calls Try.prog 60 #[.int .i64 n] w fun e w' => ∃ v, e = .returned v ∧ St w w' [⟨v, 5, 1, (putL n).length, bs (putL n)⟩] [] := by
  have hb9 : (putL n).length ≤ 9 := by have := putL_le 9 n (by omega); omega
  go_enter Try.func60, Try.ntmps60
  go_wp2_with fail
  go_loopw [0, 3] (fun x v wr => ∃ (m : Nat) (acc : List UInt8), m ≤ n ∧ x = .int .i64 m ∧ St w wr [⟨v, 5, 1, acc.length, bs acc⟩] [] ∧ Hid (acc ++ putL m = putL n) ∧ acc.length ≤ 8) (fun x _ _ => (intOf x).toNat)
  case atStart => exact ⟨n, [], by omega, rfl, St.nil _ _ _, rfl, by simp⟩
  case round =>
    obtain ⟨m, acc, hm, rfl, hs, Heq, hlen⟩ := hrel
    by_cases hlt : 127 < m
    · go_wp2_with (at_builtin; refine wpl_app rfl _ _ 22 rfl Try.elU8 (hs.alloc _) rfl (by exact (Sl.one _ _ _)) (by intro u hu; simp at hu; subst hu; rfl) (by omega) ?_; intro v1 w1 hs1 _)
      go_roundw
      case rel =>
        have e := Heq.out
        rw [putL, dif_neg (by omega)] at e
        have hl := congrArg List.length e
        simp at hl
        have hp : 1 ≤ (putL (m / 128)).length := by rw [putL]; split <;> simp
        exact ⟨m / 128, acc ++ [UInt8.ofNat (m % 128 + 128)], by omega, by go_num, hs1.cast (by simp) (by rw [bs_app, or128]; rfl), by rw [List.append_assoc]; exact e, by simp; omega⟩
      case measure => simp [intOf]; omega
    · go_wp2_with (at_builtin; refine wpl_app rfl _ _ 22 rfl Try.elU8 (hs.alloc _) rfl (by exact (Sl.one _ _ _)) (by intro u hu; simp at hu; subst hu; rfl) (by omega) ?_; intro v1 w1 hs1 _)
      go_ret
      have e := Heq.out
      rw [putL, dif_pos (by omega)] at e
      exact ⟨_, rfl, hs1.cast (by rw [← e]; simp) (by rw [← e, bs_app, bs_cons, u8_nat (by omega)]; rfl)⟩

def PutPost (n : Int) (w : World) (e : Ending) (w' : World) : Prop :=
  if n < 0 ∨ 72057594037927936 < n then e = .returned (.tuple #[.slice none 0 0, .int .i64 1]) ∧ w = w'
  else ∃ v, e = .returned (.tuple #[v, .int .i64 0]) ∧ St w w' [⟨v, 5, 1, (putL n.toNat).length, bs (putL n.toNat)⟩] []

theorem Put_any (n : Int) (w : World) (hn : (Lit.int .i64 n).wf = true) : Calls Try.prog 49 #[.int .i64 n] w (PutPost n w) := by
  by_cases h0 : n < 0
  · go_enter Try.func49, Try.ntmps49
    go_wp2
    go_ret2
    unfold PutPost
    rw [if_pos (by omega)]
    exact ⟨rfl, rfl⟩
  · by_cases h1 : 72057594037927936 < n
    · go_enter Try.func49, Try.ntmps49
      go_wp2
      go_ret2
      unfold PutPost
      rw [if_pos (by omega)]
      exact ⟨rfl, rfl⟩
    · obtain ⟨k, rfl⟩ := Int.eq_ofNat_of_zero_le (show 0 ≤ n by omega)
      have hP : ∀ v w', St w w' [⟨v, 5, 1, (putL k).length, bs (putL k)⟩] [] → PutPost k w (.returned (.tuple #[v, .int .i64 0])) w' := fun v w' h => by
        unfold PutPost
        rw [if_neg (by omega)]
        exact ⟨v, rfl, h⟩
      have HP := Mx.hid hP
      clear hP
      go_enter Try.func49, Try.ntmps49
      go_wp2_with (go_at_call 60; refine (put_any k _ (by omega)).mono ?_; rintro e w' ⟨v1, rfl, hs1⟩)
      go_ret2
      exact HP.out _ _ hs1
end Go.Proofs.Ytobpojlophhfaaa
