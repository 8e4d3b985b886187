/- The walks of package wire. -/
import Derived.Test.YtdalcdgkigkbbaaRows
import Derived.Test.YtdalcdgkigkbbaaLib2
import Derived.Test.YtdalcdgkigkbbaaWireP
namespace Go.Proofs.Ytdalcdgkigkbbaa
open Go.RowKit Go.Mx

theorem Try.elU8 : El Try.prog 22 5 1 1 := El.mk' Try.underlying22 (z := .int .u8 0) (by kernel_rfl) rfl (by omega)

theorem u8_nat {m : Nat} (h : m < 256) : ((UInt8.ofNat m).toNat : Int) = m := by
  rw [UInt8.toNat_ofNat']; omega

theorem or128_nat : ∀ n : Nat, n < 256 → n ||| 128 = n % 128 + 128 := by decide +kernel
theorem or128 (m : Nat) : bits BinOp.or IntKind.u8 ((m : Int) % 256) 128 = ((UInt8.ofNat (m % 128 + 128)).toNat : Int) := by
  rw [u8_or _ _ (by omega) (by omega) (by omega) (by omega), show Int.toNat 128 = 128 from rfl, or128_nat _ (by omega), u8_nat (by omega)]
  omega

set_option maxHeartbeats 400000 in
theorem put_any (n : Nat) (w : World) (hn : n ≤ 72057594037927936) :
    Calls Try.prog 40 #[.int .i64 n] w fun e w' => ∃ v, e = .returned v ∧ St w w' [⟨v, 5, 1, (putL n).length, bs (putL n)⟩] [] := by
  have hb9 : (putL n).length ≤ 9 := by have := putL_le 9 n (by omega); omega
  go_enter Try.func40, Try.ntmps40
  go_wp2_with fail
  go_loopw [0, 3] (fun x v wr => ∃ (m : Nat) (acc : List UInt8), m ≤ n ∧ x = .int .i64 m ∧ St w wr [⟨v, 5, 1, acc.length, bs acc⟩] [] ∧ Hid (acc ++ putL m = putL n) ∧ acc.length ≤ 8) (fun x _ _ => (intOf x).toNat)
  case atStart => exact ⟨n, [], by omega, rfl, St.nil _ _ _, rfl, by simp⟩
  case round =>
    obtain ⟨m, acc, hm, rfl, hs, Heq, hlen⟩ := hrel
    by_cases hlt : 127 < m
    · go_wp2_with (at_builtin; refine wpl_app rfl _ _ 22 rfl Try.elU8 (hs.alloc _) rfl (by exact (Sl.one _ _ _)) (by intro u hu; simp at hu; subst hu; rfl) (by omega) ?_; intro v1 w1 hs1 _)
      go_roundw
      case rel =>
        have e := Heq.out
        rw [putL, dif_neg (by omega)] at e
        have hl := congrArg List.length e
        simp at hl
        have hp : 1 ≤ (putL (m / 128)).length := by rw [putL]; split <;> simp
        exact ⟨m / 128, acc ++ [UInt8.ofNat (m % 128 + 128)], by omega, by go_num, hs1.cast (by simp) (by rw [bs_app, or128]; rfl), by rw [List.append_assoc]; exact e, by simp; omega⟩
      case measure => simp [intOf]; omega
    · go_wp2_with (at_builtin; refine wpl_app rfl _ _ 22 rfl Try.elU8 (hs.alloc _) rfl (by exact (Sl.one _ _ _)) (by intro u hu; simp at hu; subst hu; rfl) (by omega) ?_; intro v1 w1 hs1 _)
      go_ret
      have e := Heq.out
      rw [putL, dif_pos (by omega)] at e
      exact ⟨_, rfl, hs1.cast (by rw [← e]; simp) (by rw [← e, bs_app, bs_cons, u8_nat (by omega)]; rfl)⟩

theorem copyBytes_any (v : Value) (l : List UInt8) (w : World) (hv : Sl w 1 v l.length (bs l)) (hl : l.length ≤ 140737488355328) :
    Calls Try.prog 13 #[v] w fun e w' => ∃ v', e = .returned v' ∧ St w w' [⟨v', 5, 1, l.length, bs l⟩] [] := by
  have hs := (St.refl w).made #[] 5 1 0 rfl (by simp)
  go_enter Try.func13, Try.ntmps13
  go_wp2_with (at_builtin; refine wpl_app rfl _ _ 22 rfl Try.elU8 hs rfl (by exact hs.old hv) (bs_one _) (by omega) ?_; intro v1 w1 hs1 _)
  go_ret
  exact ⟨_, rfl, hs1.cast (by simp) (by simp)⟩

theorem bytes_any (v v' : Value) (l l' : List UInt8) (w : World) (hv : Sl w 1 v l.length (bs l)) (hv' : Sl w 1 v' l'.length (bs l')) :
    Calls Try.prog 18 #[v, v'] w fun e w' => e = .returned (.bool (decide (l = l'))) ∧ w = w' := by
  go_enter Try.func18, Try.ntmps18
  go_wp2_with (first | ((with_reducible show wpList _ _ _ _ _ _); refine wpl_b2s rfl 22 9 5 _ rfl Try.underlying22 Try.underlying5 Try.underlying9 (by exact hv) ?_) | ((with_reducible show wpList _ _ _ _ _ _); refine wpl_b2s rfl 22 9 5 _ rfl Try.underlying22 Try.underlying5 Try.underlying9 (by exact hv') ?_))
  go_ret
  exact ⟨by rw [← str_beq]; rfl, rfl⟩

def PutPost (n : Int) (w : World) (e : Ending) (w' : World) : Prop :=
  if n < 0 ∨ 72057594037927936 < n then e = .returned (.tuple #[.slice none 0 0, .int .i64 1]) ∧ w = w'
  else ∃ v, e = .returned (.tuple #[v, .int .i64 0]) ∧ St w w' [⟨v, 5, 1, (putL n.toNat).length, bs (putL n.toNat)⟩] []

theorem Put_any (n : Int) (w : World) (hn : (Lit.int .i64 n).wf = true) : Calls Try.prog 14 #[.int .i64 n] w (PutPost n w) := by
  by_cases h0 : n < 0
  · go_enter Try.func14, Try.ntmps14
    go_wp2
    go_ret2
    unfold PutPost
    rw [if_pos (by omega)]
    exact ⟨rfl, rfl⟩
  · by_cases h1 : 72057594037927936 < n
    · go_enter Try.func14, Try.ntmps14
      go_wp2
      go_ret2
      unfold PutPost
      rw [if_pos (by omega)]
      exact ⟨rfl, rfl⟩
    · obtain ⟨k, rfl⟩ := Int.eq_ofNat_of_zero_le (show 0 ≤ n by omega)
      have hP : ∀ v w', St w w' [⟨v, 5, 1, (putL k).length, bs (putL k)⟩] [] → PutPost k w (.returned (.tuple #[v, .int .i64 0])) w' := fun v w' h => by
        unfold PutPost
        rw [if_neg (by omega)]
        exact ⟨v, rfl, h⟩
      have HP := Mx.hid hP
      clear hP
      go_enter Try.func14, Try.ntmps14
      go_wp2_with (go_at_call 40; refine (put_any k _ (by omega)).mono ?_; rintro e w' ⟨v1, rfl, hs1⟩)
      go_ret2
      exact HP.out _ _ hs1
end Go.Proofs.Ytdalcdgkigkbbaa
