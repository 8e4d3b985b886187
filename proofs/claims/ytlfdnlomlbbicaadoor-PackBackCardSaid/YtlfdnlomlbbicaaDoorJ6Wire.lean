/- The walks of package wire. The walks of slices.Equal, wire.Get, marref1.Put, marref1.Get. -/
import Derived.Test.YtlfdnlomlbbicaaDoorJ3Base
import Derived.Test.YtlfdnlomlbbicaaDoorJ1WireP
import Derived.Deep.QuietTactic
import Derived.BigQuiet
namespace Go.Proofs.YtlfdnlomlbbicaaDoor
open Go.RowKit Go.Mx

theorem or128_nat : ∀ n : Nat, n < 256 → n ||| 128 = n % 128 + 128 := by decide +kernel
theorem or128 (m : Nat) : bits BinOp.or IntKind.u8 ((m : Int) % 256) 128 = ((UInt8.ofNat (m % 128 + 128)).toNat : Int) := by
  rw [u8_or _ _ (by omega) (by omega) (by omega) (by omega), show Int.toNat 128 = 128 from rfl, or128_nat _ (by omega), u8_nat (by omega)]
  omega

set_option maxHeartbeats 400000 in
theorem put_any (n : Nat) (w : World) (hn : n ≤ 72057594037927936) :
    Calls Tryd.prog 33 #[.int .i64 n] w fun e w' => ∃ v, e = .returned v ∧ St w w' [⟨v, 5, 1, (putL n).length, bs (putL n)⟩] [] := by
  have hb9 : (putL n).length ≤ 9 := by have := putL_le 9 n (by omega); omega
  go_enter Tryd.func33, Tryd.ntmps33
  go_wp2_with fail
  go_loopw [0, 3] (fun x v wr => ∃ (m : Nat) (acc : List UInt8), m ≤ n ∧ x = .int .i64 m ∧ St w wr [⟨v, 5, 1, acc.length, bs acc⟩] [] ∧ Hid (acc ++ putL m = putL n) ∧ acc.length ≤ 8) (fun x _ _ => (intOf x).toNat)
  case atStart => exact ⟨n, [], by omega, rfl, St.nil _ _ _, rfl, by simp⟩
  case round =>
    obtain ⟨m, acc, hm, rfl, hs, Heq, hlen⟩ := hrel
    by_cases hlt : 127 < m
    · go_wp2_with (at_builtin; refine wpl_app rfl _ _ 25 rfl Tryd.elU8 (hs.alloc _) rfl (by exact (Sl.one _ _ _)) (by intro u hu; simp at hu; subst hu; rfl) (by omega) ?_; intro v1 w1 hs1 _)
      go_roundw
      case rel =>
        have e := Heq.out
        rw [putL, dif_neg (by omega)] at e
        have hl := congrArg List.length e
        simp at hl
        have hp : 1 ≤ (putL (m / 128)).length := by rw [putL]; split <;> simp
        exact ⟨m / 128, acc ++ [UInt8.ofNat (m % 128 + 128)], by omega, by go_num, hs1.cast (by simp) (by rw [bs_app, or128]; rfl), by rw [List.append_assoc]; exact e, by simp; omega⟩
      case measure => simp [intOf]; omega
    · go_wp2_with (at_builtin; refine wpl_app rfl _ _ 25 rfl Tryd.elU8 (hs.alloc _) rfl (by exact (Sl.one _ _ _)) (by intro u hu; simp at hu; subst hu; rfl) (by omega) ?_; intro v1 w1 hs1 _)
      go_ret
      have e := Heq.out
      rw [putL, dif_pos (by omega)] at e
      exact ⟨_, rfl, hs1.cast (by rw [← e]; simp) (by rw [← e, bs_app, bs_cons, u8_nat (by omega)]; rfl)⟩

def PutPost (n : Int) (w : World) (e : Ending) (w' : World) : Prop :=
  if n < 0 ∨ 72057594037927936 < n then e = .returned (.tuple #[.slice none 0 0, .int .i64 1]) ∧ w = w'
  else ∃ v, e = .returned (.tuple #[v, .int .i64 0]) ∧ St w w' [⟨v, 5, 1, (putL n.toNat).length, bs (putL n.toNat)⟩] []

theorem Put_any (n : Int) (w : World) (hn : (Lit.int .i64 n).wf = true) : Calls Tryd.prog 22 #[.int .i64 n] w (PutPost n w) := by
  by_cases h0 : n < 0
  · go_enter Tryd.func22, Tryd.ntmps22
    go_wp2
    go_ret2
    unfold PutPost
    rw [if_pos (by omega)]
    exact ⟨rfl, rfl⟩
  · by_cases h1 : 72057594037927936 < n
    · go_enter Tryd.func22, Tryd.ntmps22
      go_wp2
      go_ret2
      unfold PutPost
      rw [if_pos (by omega)]
      exact ⟨rfl, rfl⟩
    · obtain ⟨k, rfl⟩ := Int.eq_ofNat_of_zero_le (show 0 ≤ n by omega)
      have hP : ∀ v w', St w w' [⟨v, 5, 1, (putL k).length, bs (putL k)⟩] [] → PutPost k w (.returned (.tuple #[v, .int .i64 0])) w' := fun v w' h => by
        unfold PutPost
        rw [if_neg (by omega)]
        exact ⟨v, rfl, h⟩
      have HP := Mx.hid hP
      clear hP
      go_enter Tryd.func22, Tryd.ntmps22
      go_wp2_with (go_at_call 33; refine (put_any k _ (by omega)).mono ?_; rintro e w' ⟨v1, rfl, hs1⟩)
      go_ret2
      exact HP.out _ _ hs1
end Go.Proofs.YtlfdnlomlbbicaaDoor

namespace Go.Proofs.YtlfdnlomlbbicaaDoor
open Go.RowKit Go.Mx

set_option maxHeartbeats 400000 in
theorem equal_any (v v' : Value) (l l' : List UInt8) (w : World) (hv : Sl w 1 v l.length (bs l)) (hv' : Sl w 1 v' l'.length (bs l')) (hlen : l.length ≤ 140737488355328) (hlen' : l'.length ≤ 140737488355328) :
    Calls Tryd.prog 76 #[v, v'] w fun e w' => e = .returned (.bool (decide (l = l'))) ∧ St w w' [] [] := by
  obtain ⟨ao, cap, rfl, h1, h2, _, hc⟩ := hv.bytes
  obtain ⟨ao', cap', rfl, h1', h2', _, hc'⟩ := hv'.bytes
  clear hv hv'
  by_cases he : l.length = l'.length
  · have hne : ((l.length : Int) != (l'.length : Int)) = false := by simp [he]
    have He := hid he
    clear he
    by_cases hnil : l = []
    · obtain rfl : l' = [] := List.eq_nil_of_length_eq_zero (by rw [← He.out, hnil]; rfl)
      subst hnil
      go_enter Tryd.func76, Tryd.ntmps76
      go_wp2_with fail
      refine wp_loop_rounds 1 ?_; rw [rounds_succ]
      go_wp2_with fail
      go_ret
      exact ⟨rfl, St.refl _⟩
    · obtain ⟨b, off, rfl, hcell⟩ := hc hnil
      obtain ⟨b', off', rfl, hcell'⟩ := hc' (by rintro rfl; exact hnil (List.eq_nil_of_length_eq_zero (by rw [He.out]; rfl)))
      have HC := hid hcell
      have HC' := hid hcell'
      clear hcell hcell' hc hc' hnil
      go_enter Tryd.func76, Tryd.ntmps76
      go_wp2_with fail
      go_loopw [13] (fun x wr => ∃ k : Nat, k ≤ l.length ∧ x = .int .i64 k ∧ Hid (l.take k = l'.take k) ∧ ∃ q, wr = w.drewN q) (fun x _ => l.length - (intOf x).toNat)
      case atStart => exact ⟨0, by omega, rfl, rfl, 0, rfl⟩
      case round =>
        obtain ⟨k, hk, rfl, Ht, q, rfl⟩ := hrel
        by_cases hlt : k < l.length
        · have hlt' : k < l'.length := by have := He.out; omega
          have c1 := HC.out k hlt
          have c2 := HC'.out k hlt'
          have hi : (k : Int) < (l.length : Int) := by omega
          have hi' : (k : Int) < (l'.length : Int) := by omega
          by_cases hx : l[k] = l'[k]
          · have hb := u8_bne hx
            have Hx := hid hx
            clear hx
            go_wp2_with fail
            go_quiet (fail)
            go_wp2_with fail
            go_roundw
            case rel => exact ⟨k + 1, by omega, by go_num, take_succ_eq Ht.out hlt hlt' Hx.out, q + nq, rfl⟩
            case measure => simp [intOf]; omega
          · have hb := u8_bne' hx
            have Hx := hid hx
            clear hx
            go_wp2_with fail
            go_quiet (fail)
            go_wp2_with fail
            go_ret
            have hne : l ≠ l' := by intro h; subst h; exact Hx.out rfl
            exact ⟨by rw [decide_eq_false hne]; rfl, ((St.refl w).drewN q).drewN nq⟩
        · go_wp2_with fail
          go_ret
          have heq : l = l' := by have h1 := Ht.out; rw [List.take_of_length_le (by omega), List.take_of_length_le (by have := He.out; omega)] at h1; exact h1
          exact ⟨by rw [decide_eq_true heq]; rfl, (St.refl w).drewN q⟩
  · have hne : ((l.length : Int) != (l'.length : Int)) = true := by simp; omega
    have hd : decide (l = l') = false := decide_eq_false (by rintro rfl; exact he rfl)
    have Hd := hid hd
    clear hd
    go_enter Tryd.func76, Tryd.ntmps76
    go_wp2_with fail
    go_ret
    exact ⟨by rw [Hd.out]; rfl, St.refl _⟩
end Go.Proofs.YtlfdnlomlbbicaaDoor
