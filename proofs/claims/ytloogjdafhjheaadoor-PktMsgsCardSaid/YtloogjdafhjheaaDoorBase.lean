/- Walks of the small functions that many statements use: bytes and texts held against one another, copies. -/
import Derived.Test.YtloogjdafhjheaaDoorRows
import Derived.Test.YtloogjdafhjheaaDoorLib3
import Derived.Test.YtloogjdafhjheaaDoorOrd
namespace Go.Proofs.YtloogjdafhjheaaDoor
open Go.RowKit Go.Mx

theorem Tryd.elU8 : El Tryd.prog 23 5 1 1 := El.mk' Tryd.underlying23 (z := .int .u8 0) (by kernel_rfl) rfl (by omega)

theorem Tryd.elStr : El Tryd.prog 22 9 1 16 := El.mk' Tryd.underlying22 (z := .string ByteArray.empty) (by kernel_rfl) rfl (by omega)

theorem Tryd.elInt : El Tryd.prog 49 3 1 8 := El.mk' Tryd.underlying49 (z := .int .i64 0) (by kernel_rfl) rfl (by omega)
theorem Tryd.elBs : El Tryd.prog 43 23 1 24 := El.mk' Tryd.underlying43 (z := .slice none 0 0) (by kernel_rfl) rfl (by omega)

theorem u8_nat {m : Nat} (h : m < 256) : ((UInt8.ofNat m).toNat : Int) = m := by
  rw [UInt8.toNat_ofNat']; omega

/-- Cells that were read before are read behind. -/
theorem keepC {w0 w : World} {R : List Row} {Q : List Rd} (h : St w0 w R Q) {n : Nat} {p : Prop} {blk off : Nat} {f : (k : Nat) → k < n → Value} (C : Hid (∀ k (hk : k < n), p ∧ w0.cell? ⟨blk, off + k, none⟩ = some (f k hk))) :
    Hid (∀ k (hk : k < n), p ∧ w.cell? ⟨blk, off + k, none⟩ = some (f k hk)) := fun k hk => ⟨(C.out k hk).1, h.keep (C.out k hk).2⟩

theorem tx_beq {x y : ByteArray} (h : x = y) : (x.toList == y.toList) = true := by simp [h]
theorem tx_bne {x y : ByteArray} (h : x ≠ y) : (x.toList == y.toList) = false := by
  simp only [beq_eq_false_iff_ne, ne_eq]
  exact fun h' => h (toL_inj h')

theorem tx_ite (x y : ByteArray) : (if (x.toList == y.toList) = true then 1 else 0) = if x = y then 1 else 0 := by
  by_cases h : x = y
  · rw [tx_beq h, if_pos h]; rfl
  · rw [tx_bne h, if_neg h]; rfl

theorem copyBytes_any (v : Value) (l : List UInt8) (w : World) (hv : Sl w 1 v l.length (bs l)) (hl : l.length ≤ 140737488355328) :
    Calls Tryd.prog 8 #[v] w fun e w' => ∃ v', e = .returned v' ∧ St w w' [⟨v', 5, 1, l.length, bs l⟩] [] := by
  have hs := (St.refl w).made #[] 5 1 0 rfl (by simp)
  go_enter Tryd.func8, Tryd.ntmps8
  go_wp2_with (at_builtin; refine wpl_app rfl _ _ 23 rfl Tryd.elU8 hs rfl (by exact hs.old hv) (bs_one _) (by omega) ?_; intro v1 w1 hs1 _)
  go_ret
  exact ⟨_, rfl, hs1.cast (by simp) (by simp)⟩

theorem bytes_any (v v' : Value) (l l' : List UInt8) (w : World) (hv : Sl w 1 v l.length (bs l)) (hv' : Sl w 1 v' l'.length (bs l')) :
    Calls Tryd.prog 14 #[v, v'] w fun e w' => e = .returned (.bool (decide (l = l'))) ∧ w = w' := by
  go_enter Tryd.func14, Tryd.ntmps14
  go_wp2_with (first | ((with_reducible show wpList _ _ _ _ _ _); refine wpl_b2s rfl 23 9 5 _ rfl Tryd.underlying23 Tryd.underlying5 Tryd.underlying9 (by exact hv) ?_) | ((with_reducible show wpList _ _ _ _ _ _); refine wpl_b2s rfl 23 9 5 _ rfl Tryd.underlying23 Tryd.underlying5 Tryd.underlying9 (by exact hv') ?_))
  go_ret
  exact ⟨by rw [← str_beq]; rfl, rfl⟩

theorem texts_any (v v' : Value) (l l' : List ByteArray) (w : World) (hv : Sl w 1 v l.length (ss l)) (hv' : Sl w 1 v' l'.length (ss l')) :
    Calls Tryd.prog 37 #[v, v'] w fun e w' => e = .returned (.bool (decide (l = l'))) ∧ St w w' [] [] := by
  obtain ⟨ao, cap, blk, off, rfl, h1, h2, _, hc⟩ := hv.txt
  obtain ⟨ao', cap', blk', off', rfl, h1', h2', _, hc'⟩ := hv'.txt
  clear hv hv'
  have HC := hid hc
  have HC' := hid hc'
  clear hc hc'
  by_cases he : l.length = l'.length
  · have hb : ((l.length : Int) != (l'.length : Int)) = false := by simp [he]
    have He := hid he
    clear he
    go_enter Tryd.func37, Tryd.ntmps37
    go_wp2_with fail
    go_loopw [5] (fun x wr => ∃ i : Nat, i ≤ l.length ∧ x = .int .i64 i ∧ Hid (l.take i = l'.take i) ∧ St w wr [] []) (fun x _ => l.length - (intOf x).toNat)
    case atStart => exact ⟨0, by omega, rfl, by simp [Hid], St.refl w⟩
    case round =>
      obtain ⟨i, hi, rfl, Ht, hs⟩ := hrel
      by_cases hlt : i < l.length
      · have hlt' : i < l'.length := by have := He.out; omega
        obtain ⟨rfl, c1⟩ := HC.out i hlt
        obtain ⟨rfl, c2⟩ := HC'.out i hlt'
        have c1 := hs.keep c1
        have c2 := hs.keep c2
        have hii : (i : Int) < (l.length : Int) := by omega
        have hii' : (i : Int) < (l'.length : Int) := by omega
        by_cases hx : l[i] = l'[i]
        · have hb := tx_beq hx
          have Hx := hid hx
          clear hx
          go_wp2_with fail
          go_quiet (fail)
          go_wp2_with fail
          go_roundw
          case rel => exact ⟨i + 1, by omega, by go_num, by rw [List.take_succ_eq_append_getElem hlt, List.take_succ_eq_append_getElem hlt', Ht.out, Hx.out]; rfl, hs.drewN _⟩
          case measure => simp [intOf]; omega
        · have hb := tx_bne hx
          have Hx := hid hx
          clear hx
          go_wp2_with fail
          go_quiet (fail)
          go_wp2_with fail
          go_ret
          have hne : l ≠ l' := by intro h; subst h; exact Hx.out rfl
          exact ⟨by rw [decide_eq_false hne]; rfl, hs.drewN _⟩
      · go_wp2_with fail
        go_ret
        have heq : l = l' := by have h1 := Ht.out; rw [List.take_of_length_le (by omega), List.take_of_length_le (by have := He.out; omega)] at h1; exact h1
        exact ⟨by rw [decide_eq_true heq]; rfl, hs⟩
  · have hb : ((l.length : Int) != (l'.length : Int)) = true := by simp; omega
    have hne : l ≠ l' := by rintro rfl; exact he rfl
    have He := hid he
    have Hne := hid hne
    clear he hne
    go_enter Tryd.func37, Tryd.ntmps37
    go_wp2_with fail
    go_ret
    exact ⟨by rw [decide_eq_false Hne.out]; rfl, St.refl w⟩

theorem texts_same (v v' : Value) (l l' : List ByteArray) (w : World) (hv : Sl w 1 v l.length (ss l)) (hv' : Sl w 1 v' l'.length (ss l')) (h : Hid (l = l')) :
    Calls Tryd.prog 37 #[v, v'] w fun e w' => e = .returned (.bool true) ∧ St w w' [] [] :=
  (texts_any v v' l l' w hv hv').mono fun e w' he => by rw [decide_eq_true h.out] at he; exact he
end Go.Proofs.YtloogjdafhjheaaDoor
