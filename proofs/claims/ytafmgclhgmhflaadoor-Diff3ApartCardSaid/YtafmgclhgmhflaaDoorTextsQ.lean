/- marref.Texts once more: it draws, and does nothing else. -/
import Derived.Test.YtafmgclhgmhflaaDoorBase
namespace Go.Proofs.YtafmgclhgmhflaaDoor
open Go.RowKit Go.Mx

theorem texts_q (v v' : Value) (l l' : List ByteArray) (w : World) (hv : Sl w 1 v l.length (ss l)) (hv' : Sl w 1 v' l'.length (ss l')) :
    Calls Tryd.prog 15 #[v, v'] w fun e w' => e = .returned (.bool (decide (l = l'))) ∧ ∃ n, w' = w.drewN n := by
  obtain ⟨ao, cap, blk, off, rfl, h1, h2, _, hc⟩ := hv.txt
  obtain ⟨ao', cap', blk', off', rfl, h1', h2', _, hc'⟩ := hv'.txt
  clear hv hv'
  have HC := hid hc
  have HC' := hid hc'
  clear hc hc'
  by_cases he : l.length = l'.length
  · have hb : ((l.length : Int) != (l'.length : Int)) = false := by simp [he]
    have He := hid he
    clear he
    go_enter Tryd.func15, Tryd.ntmps15
    go_wp2_with fail
    go_loopw [5] (fun x wr => ∃ i n : Nat, i ≤ l.length ∧ x = .int .i64 i ∧ Hid (l.take i = l'.take i) ∧ wr = w.drewN n) (fun x _ => l.length - (intOf x).toNat)
    case atStart => exact ⟨0, 0, by omega, rfl, by simp [Hid], rfl⟩
    case round =>
      obtain ⟨i, n, hi, rfl, Ht, rfl⟩ := hrel
      have hs := (St.refl w).drewN n
      by_cases hlt : i < l.length
      · have hlt' : i < l'.length := by have := He.out; omega
        obtain ⟨rfl, c1⟩ := HC.out i hlt
        obtain ⟨rfl, c2⟩ := HC'.out i hlt'
        have c1 := hs.keep c1
        have c2 := hs.keep c2
        have hii : (i : Int) < (l.length : Int) := by omega
        have hii' : (i : Int) < (l'.length : Int) := by omega
        by_cases hx : l[i] = l'[i]
        · have hb := tx_beq hx
          have Hx := hid hx
          clear hx
          go_wp2_with fail
          go_quiet (fail)
          go_wp2_with fail
          go_roundw
          case rel => exact ⟨i + 1, _, by omega, by go_num, by rw [List.take_succ_eq_append_getElem hlt, List.take_succ_eq_append_getElem hlt', Ht.out, Hx.out]; rfl, rfl⟩
          case measure => simp [intOf]; omega
        · have hb := tx_bne hx
          have Hx := hid hx
          clear hx
          go_wp2_with fail
          go_quiet (fail)
          go_wp2_with fail
          go_ret
          have hne : l ≠ l' := by intro h; subst h; exact Hx.out rfl
          exact ⟨by rw [decide_eq_false hne]; rfl, _, by rw [World.drewN_drewN]⟩
      · go_wp2_with fail
        go_ret
        have heq : l = l' := by have h1 := Ht.out; rw [List.take_of_length_le (by omega), List.take_of_length_le (by have := He.out; omega)] at h1; exact h1
        exact ⟨by rw [decide_eq_true heq]; rfl, _, rfl⟩
  · have hb : ((l.length : Int) != (l'.length : Int)) = true := by simp; omega
    have hne : l ≠ l' := by rintro rfl; exact he rfl
    have He := hid he
    have Hne := hid hne
    clear he hne
    go_enter Tryd.func15, Tryd.ntmps15
    go_wp2_with fail
    go_ret
    exact ⟨by rw [decide_eq_false Hne.out]; rfl, 0, rfl⟩

theorem texts_qs (v v' : Value) (l : List ByteArray) (w : World) (hv : Sl w 1 v l.length (ss l)) (hv' : Sl w 1 v' l.length (ss l)) :
    Calls Tryd.prog 15 #[v, v'] w fun e w' => e = .returned (.bool true) ∧ ∃ n, w' = w.drewN n :=
  (texts_q v v' l l w hv hv').mono fun _ _ he => by rw [decide_eq_true rfl] at he; exact he
end Go.Proofs.YtafmgclhgmhflaaDoor
