/- What a put number is. The walks of marlaw2's document: marref1.Put, marref1.Get. -/
import Derived.Test.YtloogjdafhjheaaGreatJ9Wire
namespace Go.Proofs.YtloogjdafhjheaaGreat
open Go.RowKit Go.Mx

theorem PutPost.bad {n : Int} {w w' : World} {e : Ending} (h : PutPost n w e w') (hn : n < 0 ∨ 72057594037927936 < n) : e = .returned (.tuple #[.slice none 0 0, .int .i64 1]) ∧ w = w' := by
  unfold PutPost at h; rw [if_pos hn] at h; exact h
theorem PutPost.good {n : Nat} {w w' : World} {e : Ending} (h : PutPost n w e w') (hn : n ≤ 72057594037927936) : ∃ v, e = .returned (.tuple #[v, .int .i64 0]) ∧ St w w' [⟨v, 5, 1, (putL n).length, bs (putL n)⟩] [] := by
  unfold PutPost at h; rw [if_neg (by omega), Int.toNat_natCast] at h; exact h

theorem PutPost.any {n : Int} {w w' : World} {e : Ending} (h : PutPost n w e w') : ∃ v k, e = .returned (.tuple #[v, .int .i64 k]) ∧ St w w' [] [] := by
  unfold PutPost at h
  split at h
  · obtain ⟨rfl, rfl⟩ := h; exact ⟨_, _, rfl, St.refl _⟩
  · obtain ⟨v, rfl, hs⟩ := h; exact ⟨_, _, rfl, hs.bare⟩
end Go.Proofs.YtloogjdafhjheaaGreat

namespace Go.Proofs.YtloogjdafhjheaaGreat
open Go.RowKit Go.Mx

theorem orand64 (m : Nat) : bits BinOp.or IntKind.i64 (bits BinOp.and IntKind.i64 (m : Int) 127) 128 % 256 = ((UInt8.ofNat (m % 128 + 128)).toNat : Int) := by
  rw [i64_and127]
  have h1 : (m : Int) % 128 = ((m % 128 : Nat) : Int) := by omega
  rw [h1, show (128 : Int) = ((128 : Nat) : Int) from rfl, i64_or _ _ (by omega) (by omega), or128_nat _ (by omega), u8_nat (by omega)]
  omega

set_option maxHeartbeats 1000000 in
theorem refPut_good (n : Nat) (w : World) (hn : n ≤ 72057594037927936) :
    Calls Tryz.prog 88 #[.int .i64 n] w fun e w' => ∃ v, e = .returned (.tuple #[v, .int .i64 0]) ∧ St w w' [⟨v, 5, 1, (putL n).length, bs (putL n)⟩] [] := by
  have hb9 : (putL n).length ≤ 9 := by have := putL_le 9 n (by omega); omega
  go_enter Tryz.func88, Tryz.ntmps88
  go_wp2_with fail
  go_loopw [0, 4] (fun x v wr => ∃ (m : Nat) (acc : List UInt8), m ≤ n ∧ x = .int .i64 m ∧ St w wr [⟨v, 5, 1, acc.length, bs acc⟩] [] ∧ Hid (acc ++ putL m = putL n) ∧ acc.length ≤ 8) (fun x _ _ => (intOf x).toNat)
  case atStart => exact ⟨n, [], by omega, rfl, St.nil _ _ _, rfl, by simp⟩
  case round =>
    obtain ⟨m, acc, hm, rfl, hs, Heq, hlen⟩ := hrel
    by_cases hlt : 127 < m
    · go_wp2_with (at_builtin; refine wpl_app rfl _ _ 51 rfl Tryz.elU8 (hs.alloc _) rfl (by exact (Sl.one _ _ _)) (by intro u hu; simp at hu; subst hu; rfl) (by omega) ?_; intro v1 w1 hs1 _)
      go_roundw
      case rel =>
        have e := Heq.out
        rw [putL, dif_neg (by omega)] at e
        have hl := congrArg List.length e
        simp at hl
        have hp : 1 ≤ (putL (m / 128)).length := by rw [putL]; split <;> simp
        exact ⟨m / 128, acc ++ [UInt8.ofNat (m % 128 + 128)], by omega, by go_num, hs1.cast (by simp) (by rw [bs_app, orand64]; rfl), by rw [List.append_assoc]; exact e, by simp; omega⟩
      case measure => simp [intOf]; omega
    · go_wp2_with (at_builtin; refine wpl_app rfl _ _ 51 rfl Tryz.elU8 (hs.alloc _) rfl (by exact (Sl.one _ _ _)) (by intro u hu; simp at hu; subst hu; rfl) (by omega) ?_; intro v1 w1 hs1 _)
      go_ret2
      have e := Heq.out
      rw [putL, dif_pos (by omega)] at e
      exact ⟨_, rfl, hs1.cast (by rw [← e]; simp) (by rw [← e, bs_app, bs_cons, u8_nat (by omega)]; rfl)⟩

theorem refPut_any (n : Int) (w : World) : Calls Tryz.prog 88 #[.int .i64 n] w (PutPost n w) := by
  by_cases h0 : n < 0
  · go_enter Tryz.func88, Tryz.ntmps88
    go_wp2
    go_ret2
    unfold PutPost
    rw [if_pos (by omega)]
    exact ⟨rfl, rfl⟩
  · by_cases h1 : 72057594037927936 < n
    · go_enter Tryz.func88, Tryz.ntmps88
      go_wp2
      go_ret2
      unfold PutPost
      rw [if_pos (by omega)]
      exact ⟨rfl, rfl⟩
    · obtain ⟨k, rfl⟩ := Int.eq_ofNat_of_zero_le (show 0 ≤ n by omega)
      refine (refPut_good k w (by omega)).mono fun e w' h => ?_
      unfold PutPost
      rw [if_neg (by omega)]
      exact h

/-- n<<7 | y, n below 2^56. -/
theorem shl7_or (n : Nat) (y : UInt8) (hn : n < 72057594037927936) :
    bits BinOp.or IntKind.i64 ((n : Int) * 128) (wrap64 (bits BinOp.and IntKind.u8 (y.toNat : Int) 127)) = ((y.toNat % 128 + 128 * n : Nat) : Int) := by
  have hy := y.toNat_lt
  have e0 : bits BinOp.and IntKind.u8 (y.toNat : Int) 127 = ((y.toNat % 128 : Nat) : Int) := by
    rw [u8_and _ 127 (by omega) (by omega) (by omega) (by omega), Int.toNat_natCast, show Int.toNat 127 = 127 from rfl, nat_mask7]
  have e1 : wrap64 ((y.toNat % 128 : Nat) : Int) = ((y.toNat % 128 : Nat) : Int) := IntWalk.wrap64_in _ (by omega)
  rw [e0, e1, show (n : Int) * 128 = ((n * 128 : Nat) : Int) from by omega, i64_or _ _ (by omega) (by omega), nat_join 7 _ _ (Nat.mul_mod_left _ _) (by omega)]
  omega

set_option maxHeartbeats 1000000 in
theorem refGet_any (v : Value) (b : List UInt8) (at_ : Int) (w : World) (hv : Sl w 1 v b.length (bs b)) (hb : b.length ≤ 140737488355328) :
    Calls Tryz.prog 73 #[v, .int .i64 at_] w (GetPost b at_ w) := by
  obtain ⟨ao, cap, blk, off, rfl, h1, h2, _, hc⟩ := hv.byt
  have HV := hid hv
  clear hv
  by_cases h0 : at_ < 0
  · go_enter Tryz.func73, Tryz.ntmps73
    go_wp2_with fail
    go_ret3
    exact ⟨by rw [getS, if_pos (by omega)]; rfl, St.refl _⟩
  · by_cases h3 : (b.length : Int) < at_
    · go_enter Tryz.func73, Tryz.ntmps73
      go_wp2_with fail
      go_ret3
      exact ⟨by rw [getS, if_pos (by omega)]; rfl, St.refl _⟩
    · obtain ⟨k, rfl⟩ := Int.eq_ofNat_of_zero_le (show 0 ≤ at_ by omega)
      have HC := hid hc
      clear hc
      have hN := hiN_le (b.drop k)
      rw [List.length_drop] at hN
      have hhi : ∀ j, j < hiN (b.drop k) → ∀ h : k + j < b.length, 128 ≤ b[k + j].toNat := fun j hj h => by
        have := hiN_hi hj (by rw [List.length_drop]; omega); rw [List.getElem_drop] at this; exact this
      have hlo : ∀ h : k + hiN (b.drop k) < b.length, b[k + hiN (b.drop k)].toNat < 128 := fun h => by
        have := hiN_lo (l := b.drop k) (by rw [List.length_drop]; omega); rw [List.getElem_drop] at this; exact this
      have hg : getS b k = if k + hiN (b.drop k) = b.length then (0, 0, 2) else if 9 < hiN (b.drop k) + 1 ∨ 72057594037927936 < valL ((b.drop k).take (hiN (b.drop k) + 1)) ∨
          putL (valL ((b.drop k).take (hiN (b.drop k) + 1))) ≠ (b.drop k).take (hiN (b.drop k) + 1) then (0, 0, 4)
          else ((valL ((b.drop k).take (hiN (b.drop k) + 1)) : Int), (k : Int) + hiN (b.drop k) + 1, 0) := by
        rw [getS, if_neg (by omega), Int.toNat_natCast]
      generalize hJ : hiN (b.drop k) = J at *
      clear hJ
      have HG := hid hg
      have HI := hid hhi
      have HL := hid hlo
      clear hg hhi hlo
      go_enter Tryz.func73, Tryz.ntmps73
      go_wp2_with fail
      go_loopw [7] (fun x wr => ∃ j : Nat, j ≤ J ∧ x = .int .i64 ((k + j : Nat) : Int) ∧ wr = w) (fun x _ => b.length - (intOf x).toNat)
      case atStart => exact ⟨0, by omega, rfl, rfl⟩
      case round =>
        obtain ⟨j, hj, rfl, rfl⟩ := hrel
        by_cases hlt : k + j < b.length
        · obtain ⟨rfl, c1⟩ := HC.out (k + j) hlt
          by_cases hh : j < J
          · have hb1 : (127 : Int) < (b[k + j].toNat : Int) := by have := HI.out j hh hlt; omega
            go_wp2_with fail
            go_roundw
            case rel => exact ⟨j + 1, by omega, by go_num, trivial⟩
            case measure => simp [intOf]; omega
          · obtain rfl : j = J := by omega
            have hb1 : (b[k + j].toNat : Int) ≤ 127 := by have := HL.out hlt; omega
            by_cases h9 : 9 < j + 1
            · go_wp2_with fail
              go_ret3
              exact ⟨by rw [HG.out, if_neg (by omega), if_pos (.inl h9)]; rfl, St.refl _⟩
            · have h9' : (j : Int) ≤ 8 := by omega
              have hXl : ((b.drop k).take (j + 1)).length = j + 1 := by rw [List.length_take, List.length_drop]; omega
              have hcells : Sl wr 1 (.slice (some ⟨blk, off + k, none⟩) (j + 1) (cap - k)) (j + 1) (bs ((b.drop k).take (j + 1))) := by
                have := Sl.of_cells (w := wr) (b := blk) (off := off + k) (cap := cap - k) (l := (b.drop k).take (j + 1)) (fun t ht => by
                  rw [hXl] at ht
                  have := (HC.out (k + t) (by omega)).2
                  rw [← Nat.add_assoc] at this
                  rw [List.getElem_take, List.getElem_drop]
                  exact this) (by rw [hXl]; omega) (by unfold maxLen; omega)
                rw [hXl] at this
                exact this
              obtain ⟨X, hXe⟩ : ∃ X, (b.drop k).take (j + 1) = X := ⟨_, rfl⟩
              have hX : ∀ t (ht : t < j + 1) (h : t < X.length), X[t] = b[k + t] := fun t ht h => by subst hXe; rw [List.getElem_take, List.getElem_drop]
              rw [hXe] at HG hXl hcells
              clear hXe
              have Hc := hid hcells
              have HX := hid hX
              clear hcells hX
              go_wp2_with fail
              clear hb1
              rename ((b[k + j].toNat : Int) ≤ 127) => hz
              clear hz
              obtain ⟨wo, rfl⟩ : ∃ wo : World, wo = wr := ⟨_, rfl⟩
              go_loopw [8, 9] (fun y x wr => ∃ t : Nat, t ≤ j + 1 ∧ x = .int .i64 ((k : Int) + t - 1) ∧ y = .int .i64 (valL (X.drop t) : Int) ∧ wr = wo) (fun _ x _ => (intOf x + 1).toNat)
              case atStart => exact ⟨j + 1, by omega, by go_num, by rw [List.drop_of_length_le (by omega)]; rfl, rfl⟩
              case round =>
                obtain ⟨t, ht, rfl, rfl, rfl⟩ := hrel
                by_cases ht0 : 0 < t
                · obtain ⟨s, rfl⟩ : ∃ s, t = s + 1 := ⟨t - 1, by omega⟩
                  have c2 := (HC.out (k + s) (by omega)).2
                  have hvl := valL_lt (X.drop (s + 1))
                  have hp8 : 128 ^ (X.drop (s + 1)).length ≤ 128 ^ 8 := Nat.pow_le_pow_right (by omega) (by rw [List.length_drop]; omega)
                  have hN : ((valL (X.drop (s + 1)) : Nat) : Int) < 72057594037927936 := by
                    have : (128 : Nat) ^ 8 = 72057594037927936 := by decide
                    omega
                  have hi : (k : Int) + ((s + 1 : Nat) : Int) - 1 = ((k + s : Nat) : Int) := by omega
                  rw [hi]
                  have HN := hid hN
                  clear hi hvl hp8 hN
                  have hdk : decide ((k : Int) ≤ (k : Int) + (s : Int)) = true := decide_eq_true (by omega)
                  go_wp2_with fail
                  go_roundw
                  case rel =>
                    refine ⟨s, by omega, by go_num, ?_, trivial⟩
                    have hd : X.drop s = X[s] :: X.drop (s + 1) := (List.drop_eq_getElem_cons (by omega))
                    rw [IntWalk.wrap64_in _ (by have := HN.out; omega), shl7_or _ _ (by have := HN.out; omega), hd, valL, HX.out s (by omega) (by omega)]
                  case measure => simp [intOf]; omega
                · obtain rfl : t = 0 := by omega
                  have hp9 : valL X ≤ 72057594037927936 → (putL (valL X)).length ≤ 9 := fun h => by have := putL_le 9 (valL X) (by omega); omega
                  by_cases hbig : 72057594037927936 < valL X
                  · go_wp2_with fail
                    refine (refPut_any _ _).mono ?_
                    intro e w1 h
                    obtain ⟨rfl, rfl⟩ := h.bad (by omega)
                    go_wp2_with fail
                    go_ret3
                    exact ⟨by rw [HG.out, if_neg (by omega), if_pos (.inr (.inl hbig))]; rfl, St.refl _⟩
                  · go_wp2_with fail
                    refine (refPut_any _ _).mono ?_
                    intro e w1 h
                    obtain ⟨v1, rfl, hs1⟩ := h.good (by omega)
                    have hcx := Hc.out.below hs1.below
                    by_cases hpx : putL (valL X) = X
                    · have hbt : decide (putL (valL X) = X) = true := decide_eq_true hpx
                      go_wp2_with fail
                      refine (bytes_any v1 _ (putL (valL X)) X _ hs1.sl0 (by rw [hXl, show k + j + 1 - k = j + 1 from by omega]; exact hcx)).mono ?_
                      rintro e w2 ⟨rfl, rfl⟩
                      rw [hbt]
                      go_wp2_with fail
                      go_ret3
                      exact ⟨by rw [HG.out, if_neg (by omega), if_neg (by simp [hpx]; omega)]; rfl, hs1.bare⟩
                    · have hbt : decide (putL (valL X) = X) = false := decide_eq_false hpx
                      go_wp2_with fail
                      refine (bytes_any v1 _ (putL (valL X)) X _ hs1.sl0 (by rw [hXl, show k + j + 1 - k = j + 1 from by omega]; exact hcx)).mono ?_
                      rintro e w2 ⟨rfl, rfl⟩
                      rw [hbt]
                      go_wp2_with fail
                      go_ret3
                      exact ⟨by rw [HG.out, if_neg (by omega), if_pos (.inr (.inr hpx))]; rfl, hs1.bare⟩
        · have hje : k + j = b.length := by omega
          have Hje := hid hje
          clear hje
          have h5 : ((k : Int) + (j : Int) == (b.length : Int)) = true := by have := Hje.out; simp; omega
          go_wp2_with fail
          go_ret3
          exact ⟨by rw [HG.out, if_pos (by have := Hje.out; omega)]; rfl, St.refl _⟩
end Go.Proofs.YtloogjdafhjheaaGreat
