/- marlaw2's first, WireLeast. -/
import Derived.Test.YtdalcdgkigkbbaaWireG
import Derived.Test.YtdalcdgkigkbbaaCrc
namespace Go.Proofs.Ytdalcdgkigkbbaa
open Go.RowKit Go.Mx

theorem put300 : putL 300 = [172, 2] := by rw [putL, putL]; rfl
theorem get0 : getS [128, 0] 0 = (0, 0, 4) := by
  have h : putL 0 = [0] := by rw [putL]; rfl
  simp [getS, hiN, valL, h]
theorem crc9 : ((crcS [49, 50, 51, 52, 53, 54, 55, 56, 57]).toNat : Int) = 3421780262 := by decide +kernel

set_option maxHeartbeats 1000000 in
theorem first_any (w : World) : Calls Try.prog 12 #[] w fun e w' => e = .returned (.bool true) ∧ St w w' [] [] := by
  have kc := fun (w : World) (C : Array Value) (n c : Nat) => Lib.run_convert_bytes_const (P := Try.prog) w 22 5 C n c Try.underlying22 Try.underlying5
  go_enter Try.func12, Try.ntmps12
  go_wp2_with fail
  refine (Put_any 300 _ (by decide)).mono ?_
  intro e w1 h1
  unfold PutPost at h1
  rw [if_neg (by omega)] at h1
  obtain ⟨v1, rfl, hs1⟩ := h1
  rw [show ((300 : Int).toNat) = 300 from rfl, put300] at hs1
  have hq := hs1.made #[.int .u8 128, .int .u8 0] 5 1 2 rfl (by simp [maxLen])
  go_wp2_with fail
  refine (get_any _ [128, 0] 0 _ hq.sl0 (by simp)).mono ?_
  intro e w2 ⟨he, hs2⟩
  rw [get0] at he
  subst he
  have hs3 := hq.tail.call0 hs2
  have hsb : Sl w2 1 v1 2 (bs [172, 2]) := hs3.sl0
  clear hq hs2 hs1
  have hm := hs3.madeM #[.int .u8 49, .int .u8 50, .int .u8 51, .int .u8 52, .int .u8 53, .int .u8 54, .int .u8 55, .int .u8 56, .int .u8 57] 5 1 9 rfl (by simp [maxLen])
  have ht : ((str [172, 2]).toList == [172, 2]) = true := by rw [str_toL]; rfl
  have h9 := crc9
  go_wp2_with (first | ((with_reducible show wpList _ _ _ _ _ _); refine wpl_want rfl ?_) | ((with_reducible show wpList _ _ _ _ _ _); refine wpl_b2s rfl 22 9 5 _ rfl Try.underlying22 Try.underlying5 Try.underlying9 (by exact hsb) ?_) | (go_at_call 19; refine (crc_any _ [49, 50, 51, 52, 53, 54, 55, 56, 57] _ hm.sl0 (by simp)).mono ?_; rintro e w3 ⟨rfl, hs4⟩))
  go_ret
  exact ⟨rfl, (hm.call0 hs4).bare⟩

theorem putL_len (n : Nat) : (putL n).length = if n < 128 then 1 else (putL (n / 128)).length + 1 := by
  rw [putL]; split <;> simp [*]
theorem putL_mono : ∀ (a b : Nat), b ≤ a → (putL b).length ≤ (putL a).length := by
  intro a
  induction a using Nat.strongRecOn with
  | _ a ih =>
    intro b h
    rw [putL_len a, putL_len b]
    split
    · split <;> omega
    · split
      · omega
      · have := ih (a / 128) (by omega) (b / 128) (by omega)
        omega
theorem putL_inj {a b : Nat} (h : putL a = putL b) : a = b := by rw [← valL_put a, h, valL_put]

theorem putL_last (n : Nat) : ∀ (l : List UInt8) (x : UInt8), putL n = l ++ [x] → l ≠ [] → x ≠ 0 := by
  induction n using Nat.strongRecOn with
  | _ n ih =>
    intro l x h hl
    rw [putL] at h
    split at h
    · have := congrArg List.length h; simp at this; exact absurd this hl
    · rename_i hn
      match l, hl with
      | y :: l, _ =>
        simp only [List.cons_append, List.cons.injEq] at h
        by_cases hl2 : l = []
        · subst hl2
          have h2 := h.2
          rw [putL] at h2
          split at h2
          · simp at h2
            intro hx
            rw [hx] at h2
            have := congrArg UInt8.toNat h2
            rw [UInt8.toNat_ofNat'] at this
            simp at this
            omega
          · have := congrArg List.length h2
            simp at this
            exact absurd this (putL_ne _)
        · exact ih (n / 128) (by omega) l x h.2 hl2

theorem hiN_all {l : List UInt8} (h : ∀ x ∈ l, 128 ≤ x.toNat) (m : List UInt8) : hiN (l ++ m) = l.length + hiN m := by
  induction l with
  | nil => simp
  | cons y l ih =>
    rw [List.cons_append, hiN, if_pos (h y (by simp)), ih (fun x hx => h x (by simp [hx]))]
    simp; omega

theorem getS_zero {z : List UInt8} (hz : z ≠ []) (h : ∀ x ∈ z, 128 ≤ x.toNat) : getS (z ++ [0]) 0 = (0, 0, 4) := by
  have e : hiN (z ++ [0]) = z.length := by rw [hiN_all h]; rfl
  have e2 : (z ++ [0]).take (z.length + 1) = z ++ [0] := List.take_of_length_le (by simp)
  unfold getS
  rw [if_neg (by omega)]
  simp only [Int.toNat_zero, List.drop_zero, e, e2]
  rw [if_neg (by simp), if_pos]
  refine .inr (.inr fun h' => ?_)
  exact putL_last _ z 0 h' hz rfl

theorem putL_hi (n : Nat) : ∀ x ∈ (putL n).dropLast, 128 ≤ x.toNat := by
  induction n using Nat.strongRecOn with
  | _ n ih =>
    intro x hx
    rw [putL] at hx
    split at hx
    · simp at hx
    · rw [List.dropLast_cons_of_ne_nil (putL_ne _)] at hx
      rcases List.mem_cons.1 hx with rfl | hx
      · rw [UInt8.toNat_ofNat']; omega
      · exact ih _ (by omega) x hx

/-- The last byte, its highest bit set. -/
def topped (l : List UInt8) : List UInt8 := l.dropLast ++ [l.getLastD 0 ||| 128]
theorem topped_hi (n : Nat) : ∀ x ∈ topped (putL n), 128 ≤ x.toNat := by
  intro x hx
  rcases List.mem_append.1 hx with hx | hx
  · exact putL_hi n x hx
  · obtain rfl := List.mem_singleton.1 hx
    rw [UInt8.toNat_or, show (128 : UInt8).toNat = 128 from rfl]
    exact Nat.right_le_or
theorem or128u (x : UInt8) : bits BinOp.or IntKind.u8 (x.toNat : Int) 128 = (((x ||| 128 : UInt8).toNat) : Int) := by
  have hx := x.toNat_lt
  rw [u8_or _ 128 (by omega) (by omega) (by omega) (by omega), Int.toNat_natCast, show Int.toNat 128 = 128 from rfl, UInt8.toNat_or]
  rfl

def LeastPost (w : World) (e : Ending) (w' : World) : Prop := e = .returned (.bool true) ∧ Below w.heap.size w w'

theorem PutPost.bad {n : Int} {w w' : World} {e : Ending} (h : PutPost n w e w') (hn : n < 0 ∨ 72057594037927936 < n) : e = .returned (.tuple #[.slice none 0 0, .int .i64 1]) ∧ w = w' := by
  unfold PutPost at h; rw [if_pos hn] at h; exact h
theorem PutPost.good {n : Nat} {w w' : World} {e : Ending} (h : PutPost n w e w') (hn : n ≤ 72057594037927936) : ∃ v, e = .returned (.tuple #[v, .int .i64 0]) ∧ St w w' [⟨v, 5, 1, (putL n).length, bs (putL n)⟩] [] := by
  unfold PutPost at h; rw [if_neg (by omega), Int.toNat_natCast] at h; exact h

theorem PutPost.any {n : Int} {w w' : World} {e : Ending} (h : PutPost n w e w') : ∃ v k, e = .returned (.tuple #[v, .int .i64 k]) ∧ St w w' [] [] := by
  unfold PutPost at h
  split at h
  · obtain ⟨rfl, rfl⟩ := h; exact ⟨_, _, rfl, St.refl _⟩
  · obtain ⟨v, rfl, hs⟩ := h; exact ⟨_, _, rfl, hs.bare⟩

theorem LeastPost.mk {w w' : World} (h : St w w' [] []) : LeastPost w (.returned (.bool true)) w' := ⟨rfl, h.below⟩

theorem bs_topped {l : List UInt8} (hl : l ≠ []) : bs (topped l) = (bs l).take (l.length - 1) ++ [Value.int .u8 ((l.getLastD 0 ||| 128 : UInt8).toNat : Int)] ++ (bs l).drop (l.length - 1 + 1) := by
  have h1 : 1 ≤ l.length := List.length_pos_iff.2 hl
  rw [topped, bs_app, List.drop_of_length_le (by rw [bs_len]; omega), List.append_nil]
  congr 1
  rw [bs, bs, ← List.map_take, List.dropLast_eq_take]

set_option maxRecDepth 100000 in
set_option maxHeartbeats 2000000 in
theorem wireLeast_bad (a b : Int) (wa : (Lit.int .i64 a).wf = true) (wb : (Lit.int .i64 b).wf = true) (w : World) (ha : a < 0 ∨ 72057594037927936 < a) : Calls Try.prog 5 #[.int .i64 a, .int .i64 b] w (LeastPost w) := by
  go_enter Try.func5, Try.ntmps5
  go_wp2_with fail
  refine (first_any _).mono ?_
  rintro e w1 ⟨rfl, hs1⟩
  go_wp2_with fail
  refine (Put_any a _ wa).mono ?_
  intro e w2 h2
  obtain ⟨rfl, rfl⟩ := h2.bad ha
  go_wp2_with fail
  refine (Put_any b _ wb).mono ?_
  intro e w3 h3
  obtain ⟨v, k, rfl, hs3⟩ := h3.any
  go_wp2_with fail
  refine (first_any _).mono ?_
  rintro e w4 ⟨rfl, hs4⟩
  go_wp2_with fail
  go_ret
  exact .mk ((hs1.call0 hs3).call0 hs4)

set_option maxRecDepth 100000 in
set_option maxHeartbeats 2000000 in
theorem wireLeast_bad2 (a : Nat) (b : Int) (wb : (Lit.int .i64 b).wf = true) (w : World) (ha : a ≤ 72057594037927936) (hb : b < 0 ∨ 72057594037927936 < b) : Calls Try.prog 5 #[.int .i64 a, .int .i64 b] w (LeastPost w) := by
  go_enter Try.func5, Try.ntmps5
  go_wp2_with fail
  refine (first_any _).mono ?_
  rintro e w1 ⟨rfl, hs1⟩
  go_wp2_with fail
  refine (Put_any a _ (WalkArith.wf_i64 (by omega))).mono ?_
  intro e w2 h2
  obtain ⟨v, rfl, hs2⟩ := h2.good ha
  go_wp2_with fail
  refine (Put_any b _ wb).mono ?_
  intro e w3 h3
  obtain ⟨rfl, rfl⟩ := h3.bad hb
  go_wp2_with fail
  refine (first_any _).mono ?_
  rintro e w4 ⟨rfl, hs4⟩
  go_wp2_with fail
  go_ret
  exact .mk ((hs1.call0 hs2.bare).call0 hs4)

set_option maxRecDepth 100000 in
set_option maxHeartbeats 4000000 in
theorem wireLeast_good (a b : Nat) (w : World) (ha : a ≤ 72057594037927936) (hb : b ≤ 72057594037927936) : Calls Try.prog 5 #[.int .i64 a, .int .i64 b] w (LeastPost w) := by
  go_enter Try.func5, Try.ntmps5
  go_wp2_with fail
  refine (first_any _).mono ?_
  rintro e w1 ⟨rfl, hs1⟩
  go_wp2_with fail
  refine (Put_any a _ (WalkArith.wf_i64 (by omega))).mono ?_
  intro e w2 h2
  obtain ⟨v, rfl, hs2⟩ := h2.good ha
  go_wp2_with fail
  refine (Put_any b _ (WalkArith.wf_i64 (by omega))).mono ?_
  intro e w3 h3
  obtain ⟨v', rfl, hs3⟩ := h3.good hb
  have hs := (hs1.call1 hs2).call1 hs3
  clear hs1 hs2 hs3 h2 h3
  go_wp2_with fail
  go_loop [9, 10] (fun y x => ∃ (k m : Nat), y = .int .i64 k ∧ x = .int .i64 m ∧ m ≤ a ∧ k + (putL m).length = (putL a).length + 1 ∧ 1 ≤ k) (fun _ x => (intOf x).toNat)
  case atStart => exact ⟨1, a, rfl, rfl, by omega, by omega, by omega⟩
  case round =>
    obtain ⟨k, m, rfl, rfl, hm, hk, hk1⟩ := hrel
    have hp9 : (putL a).length ≤ 9 := by have := putL_le 9 a (by omega); omega
    have hm1 := putL_len m
    by_cases hlt : 127 < m
    · rw [if_neg (by omega)] at hm1
      have Hm1 := hid hm1
      have Hk := hid hk
      have hk9 : k ≤ 9 := by omega
      clear hm1 hk
      go_wp2_with fail
      go_round
      case rel => exact ⟨k + 1, m / 128, by go_num, by go_num, by omega, by have := Hm1.out; have := Hk.out; omega, by omega⟩
      case measure => simp [intOf]; omega
    · rw [if_pos (by omega)] at hm1
      obtain rfl : k = (putL a).length := by omega
      have hp1 : 1 ≤ (putL a).length := List.length_pos_iff.2 (putL_ne a)
      have hsame : ((a : Int) == (b : Int)) = decide (putL a = putL b) := by
        rw [Bool.eq_iff_iff, beq_iff_eq, decide_eq_true_iff]
        exact ⟨fun h => by rw [show a = b by omega], fun h => by rw [putL_inj h]⟩
      have hsame2 : ((str (putL a)).toList == (str (putL b)).toList) = decide (putL a = putL b) := str_beq _ _
      have hmono : (b : Int) < (a : Int) → decide ((putL a).length < (putL b).length) = false := fun h => decide_eq_false (by have := putL_mono a b (by omega); omega)
      have hne : (((putL a).length : Int) != ((putL a).length : Int)) = false := by simp
      have hlast : (bs (putL a))[(putL a).length - 1]? = some (.int .u8 (((putL a).getLastD 0).toNat : Int)) := by
        rw [bs_get (by omega)]
        congr 4
        rw [List.getLastD_eq_getLast?, List.getLast?_eq_getElem?, List.getElem?_eq_getElem (by omega)]
        rfl
      have hor := or128u ((putL a).getLastD 0)
      have hcast := bs_topped (putL_ne a)
      have htl : (topped (putL a)).length = (putL a).length := by simp [topped]; omega
      have hget := getS_zero (z := topped (putL a)) (by simp [topped]) (topped_hi a)
      generalize hP : putL a = L at *
      generalize hP' : putL b = L' at *
      generalize hT : topped L = T at *
      generalize hD : L.getLastD 0 = d at *
      have HX := hid hcast
      have HL := hid hlast
      have HT := hid htl
      have HG := hid hget
      have HM := hid hmono
      clear hcast hlast htl hget hP hP' hT hD hmono hk
      have hdec : ∃ c, decide (L = L') = c := ⟨_, rfl⟩
      obtain ⟨c, hc⟩ := hdec
      rw [hc] at hsame hsame2
      clear hc
      have hcc : (c != c) = false := by simp
      have hz := hs.made #[] 5 1 0 rfl (by simp)
      by_cases hab : (b : Int) < (a : Int)
      · have hm2 := HM.out hab
        go_wp2_with (first | ((with_reducible show wpList _ _ _ _ _ _); refine wpl_want rfl ?_) | ((with_reducible show wpList _ _ _ _ _ _); refine wpl_len rfl 22 5 _ rfl Try.underlying22 (by exact hs.sl1) ?_) | ((with_reducible show wpList _ _ _ _ _ _); refine wpl_len rfl 22 5 _ rfl Try.underlying22 (by exact hs.sl0) ?_) | ((with_reducible show wpList _ _ _ _ _ _); refine wpl_b2s rfl 22 9 5 _ rfl Try.underlying22 Try.underlying5 Try.underlying9 (by exact hs.sl1) ?_) | ((with_reducible show wpList _ _ _ _ _ _); refine wpl_b2s rfl 22 9 5 _ rfl Try.underlying22 Try.underlying5 Try.underlying9 (by exact hs.sl0) ?_) | (at_builtin; refine wpl_app rfl _ _ 22 rfl Try.elU8 hz rfl (by exact (hs.alloc _).sl1) (bs_one _) (by omega) ?_; intro v1 w4 hs4 _; replace hs4 := hs4.cast (n' := L.length) (xs' := bs L) (by omega) rfl; obtain ⟨g, gc, rfl, hg0, hg1, hg2, hg3⟩ := hs4.form0 (by omega); have hc4 := hs4.cell (by exact HL.out)) | ((with_reducible show wpList _ _ _ _ _ _); refine wpl_store1 rfl 5 _ _ rfl hs4 (L.length - 1) rfl _ rfl rfl (by kernel_rfl) (by rw [bs_len]; omega) rfl ?_; intro w2 hs2) | (at_builtin; refine wpl_app rfl _ _ 22 rfl Try.elU8 (hs2.alloc _) rfl (by exact (Sl.one _ _ _)) (by intro u hu; simp at hu; subst hu; rfl) (by omega) ?_; intro v5 w5 hs5 _) | (go_at_call 16; refine (get_any v5 (T ++ [0]) 0 _ ((hs5.cast (n' := (T ++ [0]).length) (xs' := bs (T ++ [0])) (by have := HT.out; simp; omega) (by rw [bs_app, HX.out]; simp [Act.eval, UInt8.toNat_or, bs])).sl0) (by have := HT.out; simp; omega)).mono ?_; intro e w6 ⟨he, hs6⟩; rw [HG.out] at he; subst he) | (go_at_call 12; refine (first_any _).mono ?_; rintro e w7 ⟨rfl, hs7⟩))
        go_ret
        exact .mk ((hs5.bare.call0 hs6).call0 hs7)
      · have hab' : decide ((b : Int) < (a : Int)) = false := decide_eq_false hab
        go_wp2_with (first | ((with_reducible show wpList _ _ _ _ _ _); refine wpl_want rfl ?_) | ((with_reducible show wpList _ _ _ _ _ _); refine wpl_len rfl 22 5 _ rfl Try.underlying22 (by exact hs.sl1) ?_) | ((with_reducible show wpList _ _ _ _ _ _); refine wpl_len rfl 22 5 _ rfl Try.underlying22 (by exact hs.sl0) ?_) | ((with_reducible show wpList _ _ _ _ _ _); refine wpl_b2s rfl 22 9 5 _ rfl Try.underlying22 Try.underlying5 Try.underlying9 (by exact hs.sl1) ?_) | ((with_reducible show wpList _ _ _ _ _ _); refine wpl_b2s rfl 22 9 5 _ rfl Try.underlying22 Try.underlying5 Try.underlying9 (by exact hs.sl0) ?_) | (at_builtin; refine wpl_app rfl _ _ 22 rfl Try.elU8 hz rfl (by exact (hs.alloc _).sl1) (bs_one _) (by omega) ?_; intro v1 w4 hs4 _; replace hs4 := hs4.cast (n' := L.length) (xs' := bs L) (by omega) rfl; obtain ⟨g, gc, rfl, hg0, hg1, hg2, hg3⟩ := hs4.form0 (by omega); have hc4 := hs4.cell (by exact HL.out)) | ((with_reducible show wpList _ _ _ _ _ _); refine wpl_store1 rfl 5 _ _ rfl hs4 (L.length - 1) rfl _ rfl rfl (by kernel_rfl) (by rw [bs_len]; omega) rfl ?_; intro w2 hs2) | (at_builtin; refine wpl_app rfl _ _ 22 rfl Try.elU8 (hs2.alloc _) rfl (by exact (Sl.one _ _ _)) (by intro u hu; simp at hu; subst hu; rfl) (by omega) ?_; intro v5 w5 hs5 _) | (go_at_call 16; refine (get_any v5 (T ++ [0]) 0 _ ((hs5.cast (n' := (T ++ [0]).length) (xs' := bs (T ++ [0])) (by have := HT.out; simp; omega) (by rw [bs_app, HX.out]; simp [Act.eval, UInt8.toNat_or, bs])).sl0) (by have := HT.out; simp; omega)).mono ?_; intro e w6 ⟨he, hs6⟩; rw [HG.out] at he; subst he) | (go_at_call 12; refine (first_any _).mono ?_; rintro e w7 ⟨rfl, hs7⟩))
        go_ret
        exact .mk ((hs5.bare.call0 hs6).call0 hs7)

theorem wireLeast_any (a b : Int) (wa : (Lit.int .i64 a).wf = true) (wb : (Lit.int .i64 b).wf = true) (w : World) : Calls Try.prog 5 #[.int .i64 a, .int .i64 b] w (LeastPost w) := by
  by_cases ha : a < 0 ∨ 72057594037927936 < a
  · exact wireLeast_bad a b wa wb w ha
  · obtain ⟨k, rfl⟩ := Int.eq_ofNat_of_zero_le (show 0 ≤ a by omega)
    by_cases hb : b < 0 ∨ 72057594037927936 < b
    · exact wireLeast_bad2 k b wb w (by omega) hb
    · obtain ⟨j, rfl⟩ := Int.eq_ofNat_of_zero_le (show 0 ≤ b by omega)
      exact wireLeast_good k j w (by omega) (by omega)
theorem wireLeastRow (a : Int) (wa : (Lit.int .i64 a).wf = true) (b : Int) (wb : (Lit.int .i64 b).wf = true) (w : World) : Calls Try.prog 5 #[.int .i64 a, .int .i64 b] w fun e w' => e = .returned (.bool true) ∧ Below w.heap.size w w' := wireLeast_any a b wa wb w
end Go.Proofs.Ytdalcdgkigkbbaa
