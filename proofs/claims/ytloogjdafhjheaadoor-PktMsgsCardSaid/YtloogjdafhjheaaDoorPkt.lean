/- Walks of package pkt's lines. -/
import Derived.Test.YtloogjdafhjheaaDoorHex
import Derived.Test.YtloogjdafhjheaaDoorPktP
import Derived.Test.YtloogjdafhjheaaDoorLists
import Derived.Lib.Bytealg
namespace Go.Proofs.YtloogjdafhjheaaDoor
open Go.RowKit Go.Mx

theorem indexByte_hex : ∀ n : Nat, n < 256 → Lib.indexByte digs (UInt8.ofNat n) = hexI (UInt8.ofNat n) := by decide +kernel

set_option maxRecDepth 100000 in
theorem stringsliteIndex_any (s : ByteArray) (c : Int) (w : World) : Calls Tryd.prog 59 #[.string s, .int .u8 c] w fun e w' => e = .returned (.int .i64 (Lib.indexByte s.data.toList c.toNat.toUInt8)) ∧ w = w' := by
  go_enter Tryd.func59, Tryd.ntmps59
  go_wp2
  rw [run_callFunc_extern Tryd.func71 (by kernel_rfl) (by kernel_rfl) (by kernel_rfl) (e := Extern.BytealgIndexByte.indexByte) (by kernel_rfl), Lib.run_indexByteString]
  simp only [Result.andThen]
  rw [Oper.upon_value]
  go_wp2
  go_ret
  exact ⟨rfl, rfl⟩
theorem indexByte_any (s : ByteArray) (c : Int) (w : World) : Calls Tryd.prog 51 #[.string s, .int .u8 c] w fun e w' => e = .returned (.int .i64 (Lib.indexByte s.data.toList c.toNat.toUInt8)) ∧ w = w' := by
  go_enter Tryd.func51, Tryd.ntmps51
  go_wp2_with (go_at_call 59; refine (stringsliteIndex_any _ _ _).mono ?_; rintro e w' ⟨rfl, rfl⟩)
  go_ret
  exact ⟨rfl, rfl⟩
theorem indexHex_any (c : UInt8) (w : World) : Calls Tryd.prog 51 #[.string ⟨#[48, 49, 50, 51, 52, 53, 54, 55, 56, 57, 97, 98, 99, 100, 101, 102]⟩, .int .u8 (c.toNat : Int)] w fun e w' => e = .returned (.int .i64 (hexI c)) ∧ w = w' :=
  (indexByte_any _ _ w).mono fun e w' h => by
    have e1 : ((c.toNat : Int).toNat.toUInt8) = UInt8.ofNat c.toNat := rfl
    rw [e1] at h
    have := indexByte_hex c.toNat c.toNat_lt
    rw [UInt8.ofNat_toNat] at this h
    exact ⟨by rw [h.1, ← this]; rfl, h.2⟩

theorem or16 (n m : Nat) (hm : m < 16) : n * 16 ||| m = 16 * n + m := by
  have := Nat.shiftLeft_add_eq_or_of_lt (i := 4) hm n
  rw [Nat.shiftLeft_eq] at this
  rw [show n * 16 = n * 2 ^ 4 from rfl, ← this]; omega
theorem pow16_lt {n k : Nat} (h : n < 16 ^ k) (hk : k < 4) : n < 4096 := by
  have : 16 ^ k ≤ 16 ^ 3 := Nat.pow_le_pow_right (by omega) (by omega)
  omega

set_option maxRecDepth 100000 in
set_option maxHeartbeats 1000000 in
theorem length_any (v : Value) (l : List UInt8) (w : World) (hv : Sl w 1 v l.length (bs l)) (h4 : l.length ≤ 4) :
    Calls Tryd.prog 39 #[v] w fun e w' => e = .returned (.int .i64 (lenI l 0)) ∧ w = w' := by
  obtain ⟨ao, cap, blk, off, rfl, h1, h2, _, hc⟩ := hv.byt
  clear hv
  have HC := Mx.hid hc
  clear hc
  go_enter Tryd.func39, Tryd.ntmps39
  go_wp2_with fail
  go_loop [3, 9] (fun x y => ∃ (n k : Nat), k ≤ l.length ∧ x = .int .i64 n ∧ y = .int .i64 k ∧ n < 16 ^ k ∧ Hid (lenI (l.drop k) n = lenI l 0)) (fun _ y => l.length - (intOf y).toNat)
  case atStart => exact ⟨0, 0, by omega, rfl, rfl, by omega, rfl⟩
  case round =>
    obtain ⟨n, k, hk, rfl, rfl, hn, He⟩ := hrel
    by_cases hlt : k < l.length
    · obtain ⟨rfl, c1⟩ := HC.out k hlt
      have hkk : (k : Int) < (l.length : Int) := by omega
      have hn' := pow16_lt hn (by omega)
      have he := He.out
      rw [List.drop_eq_getElem_cons hlt, lenI] at he
      have hhi := hexI_hi l[k]
      by_cases hb : hexI l[k] < 0
      · rw [if_pos hb] at he
        have HE := Mx.hid he
        clear he
        go_wp2_with (go_at_call 51; refine (indexHex_any _ _).mono ?_; rintro e w' ⟨rfl, rfl⟩)
        go_ret
        exact ⟨by rw [← HE.out]; rfl, rfl⟩
      · rw [if_neg hb] at he
        have HE := Mx.hid he
        clear he
        obtain ⟨m, hm⟩ := Int.eq_ofNat_of_zero_le (show 0 ≤ hexI l[k] by omega)
        have Hm := Mx.hid hm
        clear hm
        go_wp2_with (go_at_call 51; refine (indexHex_any _ _).mono ?_; rintro e w' ⟨rfl, rfl⟩)
        go_round
        case rel =>
          have hm := Hm.out
          rw [hm] at hhi
          have h2 := HE.out
          rw [hm, Int.toNat_natCast] at h2
          refine ⟨16 * n + m, k + 1, by omega, ?_, by go_num, by rw [Nat.pow_succ]; omega, h2⟩
          rw [hm, show (n : Int) * 16 = ((n * 16 : Nat) : Int) by omega, i64_or _ _ (by omega) (by omega), or16 _ _ (by omega)]
        case measure => simp [intOf]; omega
    · go_wp2_with fail
      go_ret
      have he := He.out
      rw [List.drop_of_length_le (by omega), lenI] at he
      exact ⟨by rw [← he]; rfl, rfl⟩

def LinePost (p : List UInt8) (w : World) (e : Ending) (w' : World) : Prop :=
  ∃ v, e = .returned (.tuple #[v, .int .i64 (lineE p)]) ∧ St w w' [⟨v, 5, 1, (lineV p).length, bs (lineV p)⟩] []

set_option maxRecDepth 100000 in
set_option maxHeartbeats 1000000 in
theorem Line_any (v : Value) (p : List UInt8) (w : World) (hv : Sl w 1 v p.length (bs p)) (hl : p.length ≤ 140737488355328) :
    Calls Tryd.prog 19 #[v] w (LinePost p w) := by
  by_cases h : 60000 < p.length
  · have hp : LinePost p w (.returned (.tuple #[.slice none 0 0, .int .i64 3])) w := by
      unfold LinePost lineE lineV
      rw [if_pos h, if_pos h]
      exact ⟨_, rfl, St.nil _ _ _⟩
    have HP := Mx.hid hp
    clear hp
    go_enter Tryd.func19, Tryd.ntmps19
    go_wp2_with ((with_reducible show wpList _ _ _ _ _ _); refine wpl_len rfl 23 5 _ rfl Tryd.underlying23 (by exact hv) ?_)
    go_ret2
    exact HP.out
  · have hp : ∀ v w', St w w' [⟨v, 5, 1, p.length + 4, bs ([dig ((p.length + 4) / 4096), dig ((p.length + 4) / 256 % 16), dig ((p.length + 4) / 16 % 16), dig ((p.length + 4) % 16)] ++ p)⟩] [] → LinePost p w (.returned (.tuple #[v, .int .i64 0])) w' := fun v w' hs => by
      unfold LinePost lineE lineV
      rw [if_neg h, if_neg h]
      exact ⟨_, rfl, hs.cast (lineL_len p).symm (by rw [lineL_eq p (by omega)])⟩
    have HP := Mx.hid hp
    clear hp
    obtain ⟨k1, k2, k3, k4, e1, e2, e3, e4, g1, g2, g3, g4, q1, q2, q3, q4⟩ : ∃ k1 k2 k3 k4 : Nat, bits BinOp.and IntKind.i64 (((p.length : Int) + 4) / 4096) 15 = (k1 : Int) ∧ bits BinOp.and IntKind.i64 (((p.length : Int) + 4) / 256) 15 = (k2 : Int) ∧
        bits BinOp.and IntKind.i64 (((p.length : Int) + 4) / 16) 15 = (k3 : Int) ∧ bits BinOp.and IntKind.i64 ((p.length : Int) + 4) 15 = (k4 : Int) ∧ (k1 : Int) < 16 ∧ (k2 : Int) < 16 ∧ (k3 : Int) < 16 ∧ (k4 : Int) < 16 ∧
        Hid ((p.length + 4) / 4096 = k1) ∧ Hid ((p.length + 4) / 256 % 16 = k2) ∧ Hid ((p.length + 4) / 16 % 16 = k3) ∧ Hid ((p.length + 4) % 16 = k4) := by
      refine ⟨_, _, _, _, and15 ((p.length + 4) / 4096) (by omega), and15 ((p.length + 4) / 256) (by omega), and15 ((p.length + 4) / 16) (by omega), and15 (p.length + 4) (by omega), by omega, by omega, by omega, by omega, ?_, ?_, ?_, ?_⟩
      · show _ = _; omega
      all_goals exact rfl
    have hd : decide ((60000 : Int) < (p.length : Int)) = false := decide_eq_false (by omega)
    go_enter Tryd.func19, Tryd.ntmps19
    go_wp2_with ((with_reducible show wpList _ _ _ _ _ _); refine wpl_len rfl 23 5 _ rfl Tryd.underlying23 (by exact hv) ?_)
    go_still_tail 15, (by kernel_rfl)
    go_wp2_with (at_builtin; refine wpl_app rfl _ _ 23 rfl Tryd.elU8 ((St.refl w).drew.made _ 5 1 4 rfl (by simp [maxLen])) rfl (by exact St.old ((St.refl w).drew.alloc _) hv) (bs_one _) (by omega) ?_; intro v1 w1 hs1 _)
    go_ret2
    refine HP.out _ _ (hs1.cast (by omega) ?_)
    rw [dig_at k1 (by omega), dig_at k2 (by omega), dig_at k3 (by omega), dig_at k4 (by omega), bs_app, q1.out, q2.out, q3.out, q4.out]
    rfl

theorem bclone_any (v : Value) (l : List UInt8) (w : World) (hv : Sl w 1 v l.length (bs l)) (hl : l.length ≤ 140737488355328) :
    Calls Tryd.prog 40 #[v] w fun e w' => ∃ v', e = .returned v' ∧ St w w' [⟨v', 5, 1, l.length, bs l⟩] [] := by
  have q := fun (w : World) (a : Option Addr) (n c n' c' : Nat) => Lib.run_eql_slice_nil (P := Tryd.prog) w 23 _ a n c n' c' Tryd.underlying23
  obtain ⟨ao, cap, rfl, h1, h2, h3, h0, hc⟩ := hv
  cases ao with
  | none =>
    have hz := h0 rfl
    subst hz
    have hln : l = [] := List.eq_nil_of_length_eq_zero (by omega)
    subst hln
    have HS := Mx.hid (St.nil w 5 1)
    clear hc h3 h0
    simp only [List.length_nil]
    go_enter Tryd.func40, Tryd.ntmps40
    go_wp2_with fail
    go_ret
    exact ⟨_, rfl, HS.out⟩
  | some a =>
    have hv : Sl w 1 (.slice (some a) l.length cap) l.length (bs l) := ⟨_, _, rfl, h1, h2, h3, h0, hc⟩
    clear hc h3 h0
    have hs := (St.refl w).made #[] 5 1 0 rfl (by simp)
    go_enter Tryd.func40, Tryd.ntmps40
    go_wp2_with (at_builtin; refine wpl_app rfl _ _ 23 rfl Tryd.elU8 hs rfl (by exact hs.old hv) (bs_one _) (by omega) ?_; intro v1 w1 hs1 _)
    go_ret
    exact ⟨_, rfl, hs1.cast (by simp) (by simp)⟩

def LinesPost (b : List UInt8) (w : World) (e : Ending) (w' : World) : Prop :=
  ∃ v, e = .returned (.tuple #[v, .int .i64 ((linesS b 0 []).2.1 : Nat), .int .i64 (linesS b 0 []).2.2]) ∧ St w w' [] [] ∧ LL w' v (linesS b 0 []).1
theorem LinesPost.bad {b : List UInt8} {k : Nat} {acc : List (List UInt8)} {err : Int} {w w' : World} (h : Hid (linesS b k acc = linesS b 0 [])) (he : linesS b k acc = ([], k, err)) (hs : St w w' [] []) :
    LinesPost b w (.returned (.tuple #[.slice none 0 0, .int .i64 k, .int .i64 err])) w' := by
  unfold LinesPost
  rw [← h.out, he]
  exact ⟨_, rfl, hs, LL.nil _⟩
theorem LinesPost.good {b : List UInt8} {k j : Nat} {acc : List (List UInt8)} {vs : List Value} {x : Value} {w w' : World} (h : Hid (linesS b k acc = linesS b 0 [])) (he : linesS b k acc = (acc, j, 0)) (hl : Hid (vs.length = acc.length))
    (hs : St w w' [⟨x, 23, 1, acc.length, vs⟩] (rds vs acc)) {i : Int} (hi : i = j) :
    LinesPost b w (.returned (.tuple #[x, .int .i64 i, .int .i64 0])) w' := by
  subst hi
  unfold LinesPost
  rw [← h.out, he]
  exact ⟨_, rfl, hs.bare, LL.ofSt hs hl.out⟩

set_option maxRecDepth 100000 in
set_option maxHeartbeats 1000000 in
theorem Lines_any (v : Value) (b : List UInt8) (w : World) (hv : Sl w 1 v b.length (bs b)) (hl : b.length ≤ 140737488355) :
    Calls Tryd.prog 20 #[v] w (LinesPost b w) := by
  have HV := Mx.hid hv
  clear hv
  go_enter Tryd.func20, Tryd.ntmps20
  go_wp2_with fail
  go_loopw [5, 6] (fun x y wr => ∃ (k : Nat) (acc : List (List UInt8)) (vs : List Value), k ≤ b.length ∧ 4 * acc.length ≤ k ∧ y = .int .i64 k ∧ Hid (linesS b k acc = linesS b 0 []) ∧ Hid (vs.length = acc.length) ∧ St w wr [⟨x, 23, 1, acc.length, vs⟩] (rds vs acc)) (fun _ y _ => b.length - (intOf y).toNat)
  case atStart => exact ⟨0, [], [], by omega, by simp, rfl, rfl, rfl, St.nil _ _ _⟩
  case round =>
    obtain ⟨k, acc, vs, hk, ha, rfl, He, Hvs, hs⟩ := hrel
    have hbv := hs.old HV.out
    by_cases hlt : k < b.length
    · by_cases h4 : b.length - k < 4
      · have HP := Mx.hid (LinesPost.bad (err := 2) He (by rw [linesS, dif_pos hlt, if_pos h4]) hs.bare)
        go_wp2_with ((with_reducible show wpList _ _ _ _ _ _); refine wpl_len rfl 23 5 _ rfl Tryd.underlying23 (by exact hbv) ?_)
        go_ret3
        exact HP.out
      · obtain ⟨r, hr, hr1, hr2⟩ : ∃ r : Int, Hid (lenI ((b.take (k + 4)).drop k) 0 = r) ∧ -1 ≤ r ∧ r < 65536 := ⟨_, rfl, lenI_lo _ _, by
          have := lenI_hi ((b.take (k + 4)).drop k) 0 0 (by omega)
          rw [List.length_drop, List.length_take, show min (k + 4) b.length - k = 4 by omega] at this
          exact this⟩
        have hstep := linesS.eq_def b k acc
        rw [dif_pos hlt, if_neg h4] at hstep
        simp only [hr.out] at hstep
        by_cases hr0 : r = 0
        · rw [if_pos hr0] at hstep
          have HP := Mx.hid (LinesPost.good He hstep Hvs hs (i := (k : Int) + 4) (by omega))
          have Hr0 := Mx.hid hr0
          clear hstep hr0
          go_wp2_with (first | ((with_reducible show wpList _ _ _ _ _ _); refine wpl_len rfl 23 5 _ rfl Tryd.underlying23 (by exact hbv) ?_) | ((with_reducible show wpList _ _ _ _ _ _); refine wpl_cut rfl 23 _ _ _ rfl Tryd.elU8 (by exact hbv) k (k + 4) (.inr ⟨.i64, rfl⟩) (.inr ⟨.i64, rfl⟩) (by omega) (by omega) ?_; intro vc hvc; replace hvc := Sl.cutB (hvc _ (by exact hbv)) (by omega) (by omega)) | (go_at_call 39; refine (length_any _ _ _ hvc (by simp; omega)).mono ?_; rintro e w' ⟨rfl, rfl⟩; rw [hr.out, Hr0.out]))
          go_ret3
          exact HP.out
        · rw [if_neg hr0] at hstep
          by_cases hr4 : r < 4
          · rw [if_pos hr4] at hstep
            have HP := Mx.hid (LinesPost.bad He hstep hs.bare)
            have b1 : (r == 0) = false := by simp [hr0]
            clear hstep
            go_wp2_with (first | ((with_reducible show wpList _ _ _ _ _ _); refine wpl_len rfl 23 5 _ rfl Tryd.underlying23 (by exact hbv) ?_) | ((with_reducible show wpList _ _ _ _ _ _); refine wpl_cut rfl 23 _ _ _ rfl Tryd.elU8 (by exact hbv) k (k + 4) (.inr ⟨.i64, rfl⟩) (.inr ⟨.i64, rfl⟩) (by omega) (by omega) ?_; intro vc hvc; replace hvc := Sl.cutB (hvc _ (by exact hbv)) (by omega) (by omega)) | (go_at_call 39; refine (length_any _ _ _ hvc (by simp; omega)).mono ?_; rintro e w' ⟨rfl, rfl⟩; rw [hr.out]))
            go_ret3
            exact HP.out
          · rw [if_neg hr4] at hstep
            have b1 : (r == 0) = false := by simp [hr0]
            obtain ⟨m, hm⟩ := Int.eq_ofNat_of_zero_le (show 0 ≤ r by omega)
            have hm4 : (4 : Int) ≤ r := by omega
            clear hr0 hr4 hr1
            rw [show r.toNat = m by omega] at hstep
            by_cases hlong : (b.length - k : Nat) < m
            · rw [if_pos (show ((b.length - k : Nat) : Int) < r by omega)] at hstep
              have HP := Mx.hid (LinesPost.bad He hstep hs.bare)
              have b2 : decide ((b.length : Int) - (k : Int) < r) = true := decide_eq_true (by omega)
              have Hm := Mx.hid hm
              clear hstep hlong hm
              go_wp2_with (first | ((with_reducible show wpList _ _ _ _ _ _); refine wpl_len rfl 23 5 _ rfl Tryd.underlying23 (by exact hbv) ?_) | ((with_reducible show wpList _ _ _ _ _ _); refine wpl_cut rfl 23 _ _ _ rfl Tryd.elU8 (by exact hbv) k (k + 4) (.inr ⟨.i64, rfl⟩) (.inr ⟨.i64, rfl⟩) (by omega) (by omega) ?_; intro vc hvc; replace hvc := Sl.cutB (hvc _ (by exact hbv)) (by omega) (by omega)) | (go_at_call 39; refine (length_any _ _ _ hvc (by simp; omega)).mono ?_; rintro e w' ⟨rfl, rfl⟩; rw [hr.out]))
              go_ret3
              exact HP.out
            · rw [if_neg (show ¬ ((b.length - k : Nat) : Int) < r by omega)] at hstep
              have HE := Mx.hid (hstep.symm.trans He.out)
              have b2 : decide ((b.length : Int) - (k : Int) < r) = false := decide_eq_false (by omega)
              have hml : k + m ≤ b.length := by omega
              have hbv' := Mx.hid hbv
              have Hm := Mx.hid hm
              have hcl : ((b.take (k + m)).drop (k + 4)).length ≤ 140737488355328 := by rw [List.length_drop, List.length_take]; omega
              have hcm : k + 4 ≤ k + m := by omega
              have hki : some (Value.int .i64 ((k : Int) + r)) = some (Value.int .i64 ((k + m : Nat) : Int)) := by rw [hm]; rfl
              have HKI := Mx.hid hki
              clear hstep hbv hlong hm hki
              go_wp2_with (first | ((with_reducible show wpList _ _ _ _ _ _); refine wpl_len rfl 23 5 _ rfl Tryd.underlying23 (by exact hbv'.out) ?_) | ((with_reducible show wpList _ _ _ _ _ _); refine wpl_cut rfl 23 _ _ _ rfl Tryd.elU8 (by exact hbv'.out) k (k + 4) (.inr ⟨.i64, rfl⟩) (.inr ⟨.i64, rfl⟩) (by omega) (by omega) ?_; intro vc hvc; replace hvc := Sl.cutB (hvc _ (by exact hbv'.out)) (by omega) (by omega)) | (go_at_call 39; refine (length_any _ _ _ hvc (by simp; omega)).mono ?_; rintro e w' ⟨rfl, rfl⟩; rw [hr.out]; clear hvc) | ((with_reducible show wpList _ _ _ _ _ _); refine wpl_cut rfl 23 _ _ _ rfl Tryd.elU8 (by exact hbv'.out) (k + 4) (k + m) (.inr ⟨.i64, rfl⟩) (.inr ⟨.i64, HKI.out⟩) (by omega) (by omega) ?_; intro vd hvd; replace hvd := Sl.cutB (hvd _ (by exact hbv'.out)) (by omega) (by omega)) | (go_at_call 40; refine (bclone_any _ _ _ hvd hcl).mono ?_; rintro e w' ⟨ve, rfl, hve⟩; obtain ⟨ca, cc, rfl, _⟩ := hve.sl0; replace hve := (hs.call1 hve).freeze; clear hvd) | (at_builtin; refine wpl_app rfl _ _ 43 rfl Tryd.elBs (hve.alloc _) rfl (by exact Sl.one _ _ _) (by intro u hu; simp at hu; subst hu; rfl) (by omega) ?_; intro vf wf hvf _))
              go_roundw
              case rel =>
                rw [show k + m - (k + 4) = ((b.take (k + m)).drop (k + 4)).length by rw [List.length_drop, List.length_take]; omega] at hvf
                obtain ⟨hq, hq'⟩ := hvf.pushL Hvs.out
                exact ⟨k + m, _, _, by omega, by simp; omega, by rw [Hm.out]; rfl, HE, hq', hq⟩
              case measure => have := Hm.out; simp [intOf]; omega
    · have HP := Mx.hid (LinesPost.good He (by rw [linesS, dif_neg hlt]) Hvs hs (i := (k : Int)) rfl)
      go_wp2_with ((with_reducible show wpList _ _ _ _ _ _); refine wpl_len rfl 23 5 _ rfl Tryd.underlying23 (by exact hbv) ?_)
      go_ret3
      exact HP.out
end Go.Proofs.YtloogjdafhjheaaDoor
