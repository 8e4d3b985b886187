/- The walks of slices.Equal, wire.Get, marref1.Put, marref1.Get. -/
import Derived.Test.YtobpojlophhfaaaWire
import Derived.Deep.QuietTactic
import Derived.BigQuiet
namespace Go.Proofs.Ytobpojlophhfaaa
open Go.RowKit Go.Mx

set_option maxHeartbeats 400000 in
theorem equal_any (v v' : Value) (l l' : List UInt8) (w : World) (hv : Sl w 1 v l.length (bs l)) (hv' : Sl w 1 v' l'.length (bs l')) (hlen : l.length ≤ 140737488355328) (hlen' : l'.length ≤ 140737488355328) :
    Calls Try.prog 65 #[v, v'] w fun e w' => e = .returned (.bool (decide (l = l'))) ∧ St w w' [] [] := by
  obtain ⟨ao, cap, rfl, h1, h2, _, hc⟩ := hv.bytes
  obtain ⟨ao', cap', rfl, h1', h2', _, hc'⟩ := hv'.bytes
  clear hv hv'
  by_cases he : l.length = l'.length
  · have hne : ((l.length : Int) != (l'.length : Int)) = false := by simp [he]
    have He := hid he
    clear he
    by_cases hnil : l = []
    · obtain rfl : l' = [] := List.eq_nil_of_length_eq_zero (by rw [← He.out, hnil]; rfl)
      subst hnil
      go_enter Try.func65, Try.ntmps65
      go_wp2_with fail
      refine wp_loop_rounds 1 ?_; rw [rounds_succ]
      go_wp2_with fail
      go_ret
      exact ⟨rfl, St.refl _⟩
    · obtain ⟨b, off, rfl, hcell⟩ := hc hnil
      obtain ⟨b', off', rfl, hcell'⟩ := hc' (by rintro rfl; exact hnil (List.eq_nil_of_length_eq_zero (by rw [He.out]; rfl)))
      have HC := hid hcell
      have HC' := hid hcell'
      clear hcell hcell' hc hc' hnil
      go_enter Try.func65, Try.ntmps65
      go_wp2_with fail
      go_loopw [13] (fun x wr => ∃ k : Nat, k ≤ l.length ∧ x = .int .i64 k ∧ Hid (l.take k = l'.take k) ∧ ∃ q, wr = w.drewN q) (fun x _ => l.length - (intOf x).toNat)
      case atStart => exact ⟨0, by omega, rfl, rfl, 0, rfl⟩
      case round =>
        obtain ⟨k, hk, rfl, Ht, q, rfl⟩ := hrel
        by_cases hlt : k < l.length
        · have hlt' : k < l'.length := by have := He.out; omega
          have c1 := HC.out k hlt
          have c2 := HC'.out k hlt'
          have hi : (k : Int) < (l.length : Int) := by omega
          have hi' : (k : Int) < (l'.length : Int) := by omega
          by_cases hx : l[k] = l'[k]
          · have hb := u8_bne hx
            have Hx := hid hx
            clear hx
            go_wp2_with fail
            go_quiet (fail)
            go_wp2_with fail
            go_roundw
            case rel => exact ⟨k + 1, by omega, by go_num, take_succ_eq Ht.out hlt hlt' Hx.out, q + nq, rfl⟩
            case measure => simp [intOf]; omega
          · have hb := u8_bne' hx
            have Hx := hid hx
            clear hx
            go_wp2_with fail
            go_quiet (fail)
            go_wp2_with fail
            go_ret
            have hne : l ≠ l' := by intro h; subst h; exact Hx.out rfl
            exact ⟨by rw [decide_eq_false hne]; rfl, ((St.refl w).drewN q).drewN nq⟩
        · go_wp2_with fail
          go_ret
          have heq : l = l' := by have h1 := Ht.out; rw [List.take_of_length_le (by omega), List.take_of_length_le (by have := He.out; omega)] at h1; exact h1
          exact ⟨by rw [decide_eq_true heq]; rfl, (St.refl w).drewN q⟩
  · have hne : ((l.length : Int) != (l'.length : Int)) = true := by simp; omega
    have hd : decide (l = l') = false := decide_eq_false (by rintro rfl; exact he rfl)
    have Hd := hid hd
    clear hd
    go_enter Try.func65, Try.ntmps65
    go_wp2_with fail
    go_ret
    exact ⟨by rw [Hd.out]; rfl, St.refl _⟩
end Go.Proofs.Ytobpojlophhfaaa
