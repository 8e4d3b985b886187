/- The walks of package wire. The walks of slices.Equal, wire.Get, marref1.Put, marref1.Get. The walk of wire.Get. -/
import Derived.Test.YtloogjdafhjheaaGreatJ1Lib3
import Derived.Test.YtloogjdafhjheaaGreatJ6WireP
import Derived.Deep.QuietTactic
import Derived.BigQuiet
namespace Go.Proofs.YtloogjdafhjheaaGreat
open Go.RowKit Go.Mx

theorem or128_nat : ∀ n : Nat, n < 256 → n ||| 128 = n % 128 + 128 := by decide +kernel
theorem or128 (m : Nat) : bits BinOp.or IntKind.u8 ((m : Int) % 256) 128 = ((UInt8.ofNat (m % 128 + 128)).toNat : Int) := by
  rw [u8_or _ _ (by omega) (by omega) (by omega) (by omega), show Int.toNat 128 = 128 from rfl, or128_nat _ (by omega), u8_nat (by omega)]
  omega

set_option maxHeartbeats 400000 in
theorem put_any (n : Nat) (w : World) (hn : n ≤ 72057594037927936) :
    Calls Tryz.prog 78 #[.int .i64 n] w fun e w' => ∃ v, e = .returned v ∧ St w w' [⟨v, 5, 1, (putL n).length, bs (putL n)⟩] [] := by
  have hb9 : (putL n).length ≤ 9 := by have := putL_le 9 n (by omega); omega
  go_enter Tryz.func78, Tryz.ntmps78
  go_wp2_with fail
  go_loopw [0, 3] (fun x v wr => ∃ (m : Nat) (acc : List UInt8), m ≤ n ∧ x = .int .i64 m ∧ St w wr [⟨v, 5, 1, acc.length, bs acc⟩] [] ∧ Hid (acc ++ putL m = putL n) ∧ acc.length ≤ 8) (fun x _ _ => (intOf x).toNat)
  case atStart => exact ⟨n, [], by omega, rfl, St.nil _ _ _, rfl, by simp⟩
  case round =>
    obtain ⟨m, acc, hm, rfl, hs, Heq, hlen⟩ := hrel
    by_cases hlt : 127 < m
    · go_wp2_with (at_builtin; refine wpl_app rfl _ _ 51 rfl Tryz.elU8 (hs.alloc _) rfl (by exact (Sl.one _ _ _)) (by intro u hu; simp at hu; subst hu; rfl) (by omega) ?_; intro v1 w1 hs1 _)
      go_roundw
      case rel =>
        have e := Heq.out
        rw [putL, dif_neg (by omega)] at e
        have hl := congrArg List.length e
        simp at hl
        have hp : 1 ≤ (putL (m / 128)).length := by rw [putL]; split <;> simp
        exact ⟨m / 128, acc ++ [UInt8.ofNat (m % 128 + 128)], by omega, by go_num, hs1.cast (by simp) (by rw [bs_app, or128]; rfl), by rw [List.append_assoc]; exact e, by simp; omega⟩
      case measure => simp [intOf]; omega
    · go_wp2_with (at_builtin; refine wpl_app rfl _ _ 51 rfl Tryz.elU8 (hs.alloc _) rfl (by exact (Sl.one _ _ _)) (by intro u hu; simp at hu; subst hu; rfl) (by omega) ?_; intro v1 w1 hs1 _)
      go_ret
      have e := Heq.out
      rw [putL, dif_pos (by omega)] at e
      exact ⟨_, rfl, hs1.cast (by rw [← e]; simp) (by rw [← e, bs_app, bs_cons, u8_nat (by omega)]; rfl)⟩

def PutPost (n : Int) (w : World) (e : Ending) (w' : World) : Prop :=
  if n < 0 ∨ 72057594037927936 < n then e = .returned (.tuple #[.slice none 0 0, .int .i64 1]) ∧ w = w'
  else ∃ v, e = .returned (.tuple #[v, .int .i64 0]) ∧ St w w' [⟨v, 5, 1, (putL n.toNat).length, bs (putL n.toNat)⟩] []

theorem Put_any (n : Int) (w : World) (hn : (Lit.int .i64 n).wf = true) : Calls Tryz.prog 61 #[.int .i64 n] w (PutPost n w) := by
  by_cases h0 : n < 0
  · go_enter Tryz.func61, Tryz.ntmps61
    go_wp2
    go_ret2
    unfold PutPost
    rw [if_pos (by omega)]
    exact ⟨rfl, rfl⟩
  · by_cases h1 : 72057594037927936 < n
    · go_enter Tryz.func61, Tryz.ntmps61
      go_wp2
      go_ret2
      unfold PutPost
      rw [if_pos (by omega)]
      exact ⟨rfl, rfl⟩
    · obtain ⟨k, rfl⟩ := Int.eq_ofNat_of_zero_le (show 0 ≤ n by omega)
      have hP : ∀ v w', St w w' [⟨v, 5, 1, (putL k).length, bs (putL k)⟩] [] → PutPost k w (.returned (.tuple #[v, .int .i64 0])) w' := fun v w' h => by
        unfold PutPost
        rw [if_neg (by omega)]
        exact ⟨v, rfl, h⟩
      have HP := Mx.hid hP
      clear hP
      go_enter Tryz.func61, Tryz.ntmps61
      go_wp2_with (go_at_call 78; refine (put_any k _ (by omega)).mono ?_; rintro e w' ⟨v1, rfl, hs1⟩)
      go_ret2
      exact HP.out _ _ hs1
end Go.Proofs.YtloogjdafhjheaaGreat

namespace Go.Proofs.YtloogjdafhjheaaGreat
open Go.RowKit Go.Mx

set_option maxHeartbeats 400000 in
theorem equal_any (v v' : Value) (l l' : List UInt8) (w : World) (hv : Sl w 1 v l.length (bs l)) (hv' : Sl w 1 v' l'.length (bs l')) (hlen : l.length ≤ 140737488355328) (hlen' : l'.length ≤ 140737488355328) :
    Calls Tryz.prog 103 #[v, v'] w fun e w' => e = .returned (.bool (decide (l = l'))) ∧ St w w' [] [] := by
  obtain ⟨ao, cap, rfl, h1, h2, _, hc⟩ := hv.bytes
  obtain ⟨ao', cap', rfl, h1', h2', _, hc'⟩ := hv'.bytes
  clear hv hv'
  by_cases he : l.length = l'.length
  · have hne : ((l.length : Int) != (l'.length : Int)) = false := by simp [he]
    have He := hid he
    clear he
    by_cases hnil : l = []
    · obtain rfl : l' = [] := List.eq_nil_of_length_eq_zero (by rw [← He.out, hnil]; rfl)
      subst hnil
      go_enter Tryz.func103, Tryz.ntmps103
      go_wp2_with fail
      refine wp_loop_rounds 1 ?_; rw [rounds_succ]
      go_wp2_with fail
      go_ret
      exact ⟨rfl, St.refl _⟩
    · obtain ⟨b, off, rfl, hcell⟩ := hc hnil
      obtain ⟨b', off', rfl, hcell'⟩ := hc' (by rintro rfl; exact hnil (List.eq_nil_of_length_eq_zero (by rw [He.out]; rfl)))
      have HC := hid hcell
      have HC' := hid hcell'
      clear hcell hcell' hc hc' hnil
      go_enter Tryz.func103, Tryz.ntmps103
      go_wp2_with fail
      go_loopw [13] (fun x wr => ∃ k : Nat, k ≤ l.length ∧ x = .int .i64 k ∧ Hid (l.take k = l'.take k) ∧ ∃ q, wr = w.drewN q) (fun x _ => l.length - (intOf x).toNat)
      case atStart => exact ⟨0, by omega, rfl, rfl, 0, rfl⟩
      case round =>
        obtain ⟨k, hk, rfl, Ht, q, rfl⟩ := hrel
        by_cases hlt : k < l.length
        · have hlt' : k < l'.length := by have := He.out; omega
          have c1 := HC.out k hlt
          have c2 := HC'.out k hlt'
          have hi : (k : Int) < (l.length : Int) := by omega
          have hi' : (k : Int) < (l'.length : Int) := by omega
          by_cases hx : l[k] = l'[k]
          · have hb := u8_bne hx
            have Hx := hid hx
            clear hx
            go_wp2_with fail
            go_quiet (fail)
            go_wp2_with fail
            go_roundw
            case rel => exact ⟨k + 1, by omega, by go_num, take_succ_eq Ht.out hlt hlt' Hx.out, q + nq, rfl⟩
            case measure => simp [intOf]; omega
          · have hb := u8_bne' hx
            have Hx := hid hx
            clear hx
            go_wp2_with fail
            go_quiet (fail)
            go_wp2_with fail
            go_ret
            have hne : l ≠ l' := by intro h; subst h; exact Hx.out rfl
            exact ⟨by rw [decide_eq_false hne]; rfl, ((St.refl w).drewN q).drewN nq⟩
        · go_wp2_with fail
          go_ret
          have heq : l = l' := by have h1 := Ht.out; rw [List.take_of_length_le (by omega), List.take_of_length_le (by have := He.out; omega)] at h1; exact h1
          exact ⟨by rw [decide_eq_true heq]; rfl, (St.refl w).drewN q⟩
  · have hne : ((l.length : Int) != (l'.length : Int)) = true := by simp; omega
    have hd : decide (l = l') = false := decide_eq_false (by rintro rfl; exact he rfl)
    have Hd := hid hd
    clear hd
    go_enter Tryz.func103, Tryz.ntmps103
    go_wp2_with fail
    go_ret
    exact ⟨by rw [Hd.out]; rfl, St.refl _⟩
end Go.Proofs.YtloogjdafhjheaaGreat

namespace Go.Proofs.YtloogjdafhjheaaGreat
open Go.RowKit Go.Mx

theorem hi_bit_nat : ∀ n : Nat, n < 256 → (n &&& 128 = 0 ↔ n < 128) := by decide +kernel
theorem hi_bit (x : UInt8) (h : 128 ≤ x.toNat) : (bits BinOp.and IntKind.u8 (x.toNat : Int) 128 != 0) = true := by
  have hx := x.toNat_lt
  rw [u8_and _ 128 (by omega) (by omega) (by omega) (by omega), Int.toNat_natCast, show Int.toNat 128 = 128 from rfl, bne_iff_ne]
  have := hi_bit_nat x.toNat hx
  omega
theorem hi_bit' (x : UInt8) (h : x.toNat < 128) : (bits BinOp.and IntKind.u8 (x.toNat : Int) 128 != 0) = false := by
  have hx := x.toNat_lt
  rw [u8_and _ 128 (by omega) (by omega) (by omega) (by omega), Int.toNat_natCast, show Int.toNat 128 = 128 from rfl]
  have := hi_bit_nat x.toNat hx
  simp; omega

def GetPost (b : List UInt8) (at_ : Int) (w : World) (e : Ending) (w' : World) : Prop :=
  e = .returned (.tuple #[.int .i64 (getS b at_).1, .int .i64 (getS b at_).2.1, .int .i64 (getS b at_).2.2]) ∧ St w w' [] []

set_option maxHeartbeats 1000000 in
theorem get_any (v : Value) (b : List UInt8) (at_ : Int) (w : World) (hv : Sl w 1 v b.length (bs b)) (hb : b.length ≤ 140737488355328) :
    Calls Tryz.prog 94 #[v, .int .i64 at_] w (GetPost b at_ w) := by
  obtain ⟨ao, cap, rfl, h1, h2, _, hc⟩ := hv.bytes
  clear hv
  unfold maxLen at h2
  by_cases h0 : at_ < 0
  · go_enter Tryz.func94, Tryz.ntmps94
    go_wp2_with fail
    go_ret3
    exact ⟨by rw [getS, if_pos (by omega)]; rfl, St.refl _⟩
  · by_cases h3 : (b.length : Int) < at_
    · go_enter Tryz.func94, Tryz.ntmps94
      go_wp2_with fail
      go_ret3
      exact ⟨by rw [getS, if_pos (by omega)]; rfl, St.refl _⟩
    · obtain ⟨k, rfl⟩ := Int.eq_ofNat_of_zero_le (show 0 ≤ at_ by omega)
      by_cases hnil : b = []
      · subst hnil
        obtain rfl : k = 0 := by simp at h3; omega
        go_enter Tryz.func94, Tryz.ntmps94
        go_wp2_with fail
        refine wp_loop_rounds 1 ?_; rw [rounds_succ]
        go_wp2_with fail
        go_ret3
        exact ⟨by rfl, St.refl _⟩
      · obtain ⟨blk, off, rfl, hcell⟩ := hc hnil
        have HC := hid hcell
        clear hcell hc
        have hN := hiN_le (b.drop k)
        rw [List.length_drop] at hN
        have hhi : ∀ j, j < hiN (b.drop k) → ∀ h : k + j < b.length, 128 ≤ b[k + j].toNat := fun j hj h => by
          have := hiN_hi hj (by rw [List.length_drop]; omega); rw [List.getElem_drop] at this; exact this
        have hlo : ∀ h : k + hiN (b.drop k) < b.length, b[k + hiN (b.drop k)].toNat < 128 := fun h => by
          have := hiN_lo (l := b.drop k) (by rw [List.length_drop]; omega); rw [List.getElem_drop] at this; exact this
        have hg : getS b k = if k + hiN (b.drop k) = b.length then (0, 0, 2) else if 9 < hiN (b.drop k) + 1 ∨ 72057594037927936 < valL ((b.drop k).take (hiN (b.drop k) + 1)) ∨
            putL (valL ((b.drop k).take (hiN (b.drop k) + 1))) ≠ (b.drop k).take (hiN (b.drop k) + 1) then (0, 0, 4)
            else ((valL ((b.drop k).take (hiN (b.drop k) + 1)) : Int), (k : Int) + hiN (b.drop k) + 1, 0) := by
          rw [getS, if_neg (by omega), Int.toNat_natCast]
        generalize hJ : hiN (b.drop k) = J at *
        clear hJ
        have HG := hid hg
        have HI := hid hhi
        have HL := hid hlo
        clear hg hhi hlo hnil
        go_enter Tryz.func94, Tryz.ntmps94
        go_wp2_with fail
        go_loopw [7] (fun x wr => ∃ j : Nat, j ≤ J ∧ x = .int .i64 ((k + j : Nat) : Int) ∧ wr = w) (fun x _ => b.length - (intOf x).toNat)
        case atStart => exact ⟨0, by omega, rfl, rfl⟩
        case round =>
          obtain ⟨j, hj, rfl, rfl⟩ := hrel
          by_cases hlt : k + j < b.length
          · have c1 := HC.out (k + j) hlt
            by_cases hh : j < J
            · have hb1 := hi_bit b[k + j] (HI.out j hh hlt)
              go_wp2_with fail
              go_roundw
              case rel => exact ⟨j + 1, by omega, by go_num, trivial⟩
              case measure => simp [intOf]; omega
            · obtain rfl : j = J := by omega
              have hb1 := hi_bit' b[k + j] (HL.out hlt)
              have hsub : k + j + 1 - k = j + 1 := by omega
              by_cases h9 : 9 < j + 1
              · go_wp2_with fail
                go_ret3
                exact ⟨by rw [HG.out, if_neg (by omega), if_pos (.inl h9)]; rfl, St.refl _⟩
              · have h9' : ((j + 1 : Nat) : Int) ≤ 9 := by omega
                go_wp2_with fail
                obtain ⟨wo, rfl⟩ : ∃ wo : World, wo = wr := ⟨_, rfl⟩
                go_loopw [9, 50] (fun y x wr => ∃ i : Nat, i ≤ j + 1 ∧ x = .int .i64 (i : Int) ∧ y = .int .i64 (valL ((b.drop k).take i) : Int) ∧ wr = wo) (fun _ x _ => j + 1 - (intOf x).toNat)
                case atStart => exact ⟨0, by omega, rfl, rfl, rfl⟩
                case round =>
                  obtain ⟨i, hi, rfl, rfl, rfl⟩ := hrel
                  by_cases hli : i < j + 1
                  · have c2 := HC.out (k + i) (by omega)
                    rw [← Nat.add_assoc] at c2
                    have hii : (i : Int) < ((j + 1 : Nat) : Int) := by omega
                    go_wp2_with fail
                    go_roundw
                    case rel =>
                      have hdl : i < (b.drop k).length := by rw [List.length_drop]; omega
                      have hvl := valL_lt ((b.drop k).take i)
                      rw [List.length_take, Nat.min_eq_left (by omega)] at hvl
                      refine ⟨i + 1, by omega, by go_num, ?_, trivial⟩
                      rw [or_step _ _ _ hvl (by omega), List.take_succ_eq_append_getElem hdl, valL_snoc, List.length_take, Nat.min_eq_left (by omega), List.getElem_drop]
                    case measure => simp [intOf]; omega
                  · obtain rfl : i = j + 1 := by omega
                    have hcells : Sl wr 1 (.slice (some ⟨blk, off + k, none⟩) (j + 1) (cap - k)) (j + 1) (bs ((b.drop k).take (j + 1))) := by
                      have hl : ((b.drop k).take (j + 1)).length = j + 1 := by rw [List.length_take, List.length_drop]; omega
                      have := Sl.of_cells (w := wr) (b := blk) (off := off + k) (cap := cap - k) (l := (b.drop k).take (j + 1)) (fun t ht => by
                        rw [hl] at ht
                        have := HC.out (k + t) (by omega)
                        rw [← Nat.add_assoc] at this
                        rw [List.getElem_take, List.getElem_drop]
                        exact this) (by rw [hl]; omega) (by unfold maxLen; omega)
                      rw [hl] at this
                      exact this
                    generalize hX : (b.drop k).take (j + 1) = X at *
                    clear hX
                    by_cases hbig : 72057594037927936 < valL X
                    · go_wp2_with fail
                      go_ret3
                      exact ⟨by rw [HG.out, if_neg (by omega), if_pos (.inr (.inl hbig))]; rfl, St.refl _⟩
                    · have hXl : X.length = j + 1 := by have := hcells.len; rw [bs_len] at this; omega
                      have hb2 : ((valL X : Nat) : Int) ≤ 72057594037927936 := by omega
                      have Hc := hid hcells
                      clear hcells
                      go_wp2_with fail
                      refine (put_any (valL X) _ (by omega)).mono ?_
                      rintro e w1 ⟨v1, rfl, hs1⟩
                      have hp9 : (putL (valL X)).length ≤ 9 := by have := putL_le 9 (valL X) (by omega); omega
                      by_cases hpx : putL (valL X) = X
                      · have hbt : decide (putL (valL X) = X) = true := decide_eq_true hpx
                        go_wp2_with fail
                        have := Hc.out.below hs1.below
                        refine (equal_any v1 _ (putL (valL X)) X _ hs1.sl0 (by rw [hXl]; exact this) (by omega) (by omega)).mono ?_
                        rintro e w2 ⟨rfl, hs2⟩
                        rw [hbt]
                        go_wp2_with fail
                        go_ret3
                        exact ⟨by rw [HG.out, if_neg (by omega), if_neg (by simp [hpx]; omega)]; rfl, hs1.bare.call0 hs2⟩
                      · have hbt : decide (putL (valL X) = X) = false := decide_eq_false hpx
                        go_wp2_with fail
                        have := Hc.out.below hs1.below
                        refine (equal_any v1 _ (putL (valL X)) X _ hs1.sl0 (by rw [hXl]; exact this) (by omega) (by omega)).mono ?_
                        rintro e w2 ⟨rfl, hs2⟩
                        rw [hbt]
                        go_wp2_with fail
                        go_ret3
                        exact ⟨by rw [HG.out, if_neg (by omega), if_pos (.inr (.inr hpx))]; rfl, hs1.bare.call0 hs2⟩
          · have hje : k + j = b.length := by omega
            have Hje := hid hje
            clear hje
            have h5 : ((k : Int) + (j : Int) == (b.length : Int)) = true := by have := Hje.out; simp; omega
            go_wp2_with fail
            go_ret3
            exact ⟨by rw [HG.out, if_pos (by have := Hje.out; omega)]; rfl, St.refl _⟩
end Go.Proofs.YtloogjdafhjheaaGreat
