/- The walk of wire.Get. -/
import Derived.Test.YtlfdnlomlbbicaaDoorJ6Wire
namespace Go.Proofs.YtlfdnlomlbbicaaDoor
open Go.RowKit Go.Mx

theorem hi_bit_nat : ∀ n : Nat, n < 256 → (n &&& 128 = 0 ↔ n < 128) := by decide +kernel
theorem hi_bit (x : UInt8) (h : 128 ≤ x.toNat) : (bits BinOp.and IntKind.u8 (x.toNat : Int) 128 != 0) = true := by
  have hx := x.toNat_lt
  rw [u8_and _ 128 (by omega) (by omega) (by omega) (by omega), Int.toNat_natCast, show Int.toNat 128 = 128 from rfl, bne_iff_ne]
  have := hi_bit_nat x.toNat hx
  omega
theorem hi_bit' (x : UInt8) (h : x.toNat < 128) : (bits BinOp.and IntKind.u8 (x.toNat : Int) 128 != 0) = false := by
  have hx := x.toNat_lt
  rw [u8_and _ 128 (by omega) (by omega) (by omega) (by omega), Int.toNat_natCast, show Int.toNat 128 = 128 from rfl]
  have := hi_bit_nat x.toNat hx
  simp; omega

def GetPost (b : List UInt8) (at_ : Int) (w : World) (e : Ending) (w' : World) : Prop :=
  e = .returned (.tuple #[.int .i64 (getS b at_).1, .int .i64 (getS b at_).2.1, .int .i64 (getS b at_).2.2]) ∧ St w w' [] []

set_option maxHeartbeats 1000000 in
theorem get_any (v : Value) (b : List UInt8) (at_ : Int) (w : World) (hv : Sl w 1 v b.length (bs b)) (hb : b.length ≤ 140737488355328) :
    Calls Tryd.prog 60 #[v, .int .i64 at_] w (GetPost b at_ w) := by
  obtain ⟨ao, cap, rfl, h1, h2, _, hc⟩ := hv.bytes
  clear hv
  unfold maxLen at h2
  by_cases h0 : at_ < 0
  · go_enter Tryd.func60, Tryd.ntmps60
    go_wp2_with fail
    go_ret3
    exact ⟨by rw [getS, if_pos (by omega)]; rfl, St.refl _⟩
  · by_cases h3 : (b.length : Int) < at_
    · go_enter Tryd.func60, Tryd.ntmps60
      go_wp2_with fail
      go_ret3
      exact ⟨by rw [getS, if_pos (by omega)]; rfl, St.refl _⟩
    · obtain ⟨k, rfl⟩ := Int.eq_ofNat_of_zero_le (show 0 ≤ at_ by omega)
      by_cases hnil : b = []
      · subst hnil
        obtain rfl : k = 0 := by simp at h3; omega
        go_enter Tryd.func60, Tryd.ntmps60
        go_wp2_with fail
        refine wp_loop_rounds 1 ?_; rw [rounds_succ]
        go_wp2_with fail
        go_ret3
        exact ⟨by rfl, St.refl _⟩
      · obtain ⟨blk, off, rfl, hcell⟩ := hc hnil
        have HC := hid hcell
        clear hcell hc
        have hN := hiN_le (b.drop k)
        rw [List.length_drop] at hN
        have hhi : ∀ j, j < hiN (b.drop k) → ∀ h : k + j < b.length, 128 ≤ b[k + j].toNat := fun j hj h => by
          have := hiN_hi hj (by rw [List.length_drop]; omega); rw [List.getElem_drop] at this; exact this
        have hlo : ∀ h : k + hiN (b.drop k) < b.length, b[k + hiN (b.drop k)].toNat < 128 := fun h => by
          have := hiN_lo (l := b.drop k) (by rw [List.length_drop]; omega); rw [List.getElem_drop] at this; exact this
        have hg : getS b k = if k + hiN (b.drop k) = b.length then (0, 0, 2) else if 9 < hiN (b.drop k) + 1 ∨ 72057594037927936 < valL ((b.drop k).take (hiN (b.drop k) + 1)) ∨
            putL (valL ((b.drop k).take (hiN (b.drop k) + 1))) ≠ (b.drop k).take (hiN (b.drop k) + 1) then (0, 0, 4)
            else ((valL ((b.drop k).take (hiN (b.drop k) + 1)) : Int), (k : Int) + hiN (b.drop k) + 1, 0) := by
          rw [getS, if_neg (by omega), Int.toNat_natCast]
        generalize hJ : hiN (b.drop k) = J at *
        clear hJ
        have HG := hid hg
        have HI := hid hhi
        have HL := hid hlo
        clear hg hhi hlo hnil
        go_enter Tryd.func60, Tryd.ntmps60
        go_wp2_with fail
        go_loopw [7] (fun x wr => ∃ j : Nat, j ≤ J ∧ x = .int .i64 ((k + j : Nat) : Int) ∧ wr = w) (fun x _ => b.length - (intOf x).toNat)
        case atStart => exact ⟨0, by omega, rfl, rfl⟩
        case round =>
          obtain ⟨j, hj, rfl, rfl⟩ := hrel
          by_cases hlt : k + j < b.length
          · have c1 := HC.out (k + j) hlt
            by_cases hh : j < J
            · have hb1 := hi_bit b[k + j] (HI.out j hh hlt)
              go_wp2_with fail
              go_roundw
              case rel => exact ⟨j + 1, by omega, by go_num, trivial⟩
              case measure => simp [intOf]; omega
            · obtain rfl : j = J := by omega
              have hb1 := hi_bit' b[k + j] (HL.out hlt)
              have hsub : k + j + 1 - k = j + 1 := by omega
              by_cases h9 : 9 < j + 1
              · go_wp2_with fail
                go_ret3
                exact ⟨by rw [HG.out, if_neg (by omega), if_pos (.inl h9)]; rfl, St.refl _⟩
              · have h9' : ((j + 1 : Nat) : Int) ≤ 9 := by omega
                go_wp2_with fail
                obtain ⟨wo, rfl⟩ : ∃ wo : World, wo = wr := ⟨_, rfl⟩
                go_loopw [9, 50] (fun y x wr => ∃ i : Nat, i ≤ j + 1 ∧ x = .int .i64 (i : Int) ∧ y = .int .i64 (valL ((b.drop k).take i) : Int) ∧ wr = wo) (fun _ x _ => j + 1 - (intOf x).toNat)
                case atStart => exact ⟨0, by omega, rfl, rfl, rfl⟩
                case round =>
                  obtain ⟨i, hi, rfl, rfl, rfl⟩ := hrel
                  by_cases hli : i < j + 1
                  · have c2 := HC.out (k + i) (by omega)
                    rw [← Nat.add_assoc] at c2
                    have hii : (i : Int) < ((j + 1 : Nat) : Int) := by omega
                    go_wp2_with fail
                    go_roundw
                    case rel =>
                      have hdl : i < (b.drop k).length := by rw [List.length_drop]; omega
                      have hvl := valL_lt ((b.drop k).take i)
                      rw [List.length_take, Nat.min_eq_left (by omega)] at hvl
                      refine ⟨i + 1, by omega, by go_num, ?_, trivial⟩
                      rw [or_step _ _ _ hvl (by omega), List.take_succ_eq_append_getElem hdl, valL_snoc, List.length_take, Nat.min_eq_left (by omega), List.getElem_drop]
                    case measure => simp [intOf]; omega
                  · obtain rfl : i = j + 1 := by omega
                    have hcells : Sl wr 1 (.slice (some ⟨blk, off + k, none⟩) (j + 1) (cap - k)) (j + 1) (bs ((b.drop k).take (j + 1))) := by
                      have hl : ((b.drop k).take (j + 1)).length = j + 1 := by rw [List.length_take, List.length_drop]; omega
                      have := Sl.of_cells (w := wr) (b := blk) (off := off + k) (cap := cap - k) (l := (b.drop k).take (j + 1)) (fun t ht => by
                        rw [hl] at ht
                        have := HC.out (k + t) (by omega)
                        rw [← Nat.add_assoc] at this
                        rw [List.getElem_take, List.getElem_drop]
                        exact this) (by rw [hl]; omega) (by unfold maxLen; omega)
                      rw [hl] at this
                      exact this
                    generalize hX : (b.drop k).take (j + 1) = X at *
                    clear hX
                    by_cases hbig : 72057594037927936 < valL X
                    · go_wp2_with fail
                      go_ret3
                      exact ⟨by rw [HG.out, if_neg (by omega), if_pos (.inr (.inl hbig))]; rfl, St.refl _⟩
                    · have hXl : X.length = j + 1 := by have := hcells.len; rw [bs_len] at this; omega
                      have hb2 : ((valL X : Nat) : Int) ≤ 72057594037927936 := by omega
                      have Hc := hid hcells
                      clear hcells
                      go_wp2_with fail
                      refine (put_any (valL X) _ (by omega)).mono ?_
                      rintro e w1 ⟨v1, rfl, hs1⟩
                      have hp9 : (putL (valL X)).length ≤ 9 := by have := putL_le 9 (valL X) (by omega); omega
                      by_cases hpx : putL (valL X) = X
                      · have hbt : decide (putL (valL X) = X) = true := decide_eq_true hpx
                        go_wp2_with fail
                        have := Hc.out.below hs1.below
                        refine (equal_any v1 _ (putL (valL X)) X _ hs1.sl0 (by rw [hXl]; exact this) (by omega) (by omega)).mono ?_
                        rintro e w2 ⟨rfl, hs2⟩
                        rw [hbt]
                        go_wp2_with fail
                        go_ret3
                        exact ⟨by rw [HG.out, if_neg (by omega), if_neg (by simp [hpx]; omega)]; rfl, hs1.bare.call0 hs2⟩
                      · have hbt : decide (putL (valL X) = X) = false := decide_eq_false hpx
                        go_wp2_with fail
                        have := Hc.out.below hs1.below
                        refine (equal_any v1 _ (putL (valL X)) X _ hs1.sl0 (by rw [hXl]; exact this) (by omega) (by omega)).mono ?_
                        rintro e w2 ⟨rfl, hs2⟩
                        rw [hbt]
                        go_wp2_with fail
                        go_ret3
                        exact ⟨by rw [HG.out, if_neg (by omega), if_pos (.inr (.inr hpx))]; rfl, hs1.bare.call0 hs2⟩
          · have hje : k + j = b.length := by omega
            have Hje := hid hje
            clear hje
            have h5 : ((k : Int) + (j : Int) == (b.length : Int)) = true := by have := Hje.out; simp; omega
            go_wp2_with fail
            go_ret3
            exact ⟨by rw [HG.out, if_pos (by have := Hje.out; omega)]; rfl, St.refl _⟩
end Go.Proofs.YtlfdnlomlbbicaaDoor
