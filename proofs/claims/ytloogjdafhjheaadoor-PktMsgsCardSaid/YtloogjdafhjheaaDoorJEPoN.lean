/- Numbers read by definition: the plain mathematics. Walk of marref.Num. Walk of marref.Dec. -/
import Derived.Test.YtloogjdafhjheaaDoorPmP
import Derived.Test.YtloogjdafhjheaaDoorPmA
import Derived.Test.YtloogjdafhjheaaDoorHeld
import Derived.Test.YtloogjdafhjheaaDoorHeldD
namespace Go.Mx
open Go Go.RowKit
/-- What is read behind a start: its rest leads to the number. -/
def NumK (D : List UInt8) (n : Int) (i : Nat) : Prop := ∀ k : Nat, k ≤ 1073741824 → D = Lib.decDigits k → Lib.parseUint10 (-n).toNat (D.drop i) = .ok k
theorem NumK.start (D : List UInt8) : NumK D 0 0 := fun k hk h => by
  subst h
  exact pu_dec k (by omega)
theorem pu_mono : ∀ (l : List UInt8) (acc v : Nat), Lib.parseUint10 acc l = .ok v → acc ≤ v
  | [], acc, v, h => by
    rw [Lib.parseUint10] at h
    cases h
    exact Nat.le_refl _
  | c :: l, acc, v, h => by
    rw [Lib.parseUint10] at h
    split at h
    · split at h
      · cases h
      · split at h
        · cases h
        · have := pu_mono l _ v h
          omega
    · cases h
theorem NumK.step {D : List UInt8} {n : Int} {i : Nat} (h : NumK D n i) (hi : i < D.length) (hn : n ≤ 0) {x : Int} (hx : x = (D[i].toNat : Int) - 48) (h0 : 0 ≤ x) : NumK D (10 * n - x) (i + 1) := fun k hk he => by
  have h1 := h k hk he
  rw [List.drop_eq_getElem_cons hi, Lib.parseUint10] at h1
  split at h1
  · split at h1
    · cases h1
    · split at h1
      · cases h1
      · rw [show (-(10 * n - x)).toNat = (-n).toNat * 10 + (D[i].toNat - 48) by omega]
        exact h1
  · cases h1
theorem NumK.over {D : List UInt8} {n : Int} {i : Nat} (h : NumK D n i) (hn : n < -1073741824) {k : Nat} (hk : k ≤ 1073741824) : D ≠ Lib.decDigits k := fun he => by
  have := pu_mono _ _ _ (h k hk he)
  omega
theorem NumK.fin {D : List UInt8} {n : Int} (h : NumK D n D.length) (hn : n ≤ 0) {k : Nat} (hk : k ≤ 1073741824) (he : D = Lib.decDigits k) : -n = k := by
  have := h k hk he
  rw [List.drop_length, Lib.parseUint10] at this
  cases this
  omega
theorem num_bad {D : List UInt8} {i : Nat} (hi : i < D.length) (h : (D[i].toNat : Int) - 48 < 0 ∨ 9 < (D[i].toNat : Int) - 48) (k : Nat) : D ≠ Lib.decDigits k := fun he => by
  have hm : D[i] ∈ D := List.getElem_mem hi
  have := dec_dig k D[i] (by rw [← he]; exact hm)
  omega
theorem num_len {D : List UInt8} (h : D.length < 1 ∨ 19 < D.length) {k : Nat} (hk : k ≤ 1073741824) : D ≠ Lib.decDigits k := fun he => by
  have h1 := dec_len 9 k (by omega)
  have h2 := dec_ne k
  rw [← he] at h1 h2
  have : D.length ≠ 0 := fun h => h2 (List.eq_nil_of_length_eq_zero h)
  omega
end Go.Mx

namespace Go.Mx
open Go Go.RowKit
/-- The quotient that Num looks at. -/
theorem num_quo : ∀ x : Nat, x < 10 → -922337203685477580 ≤ Int.tdiv (-9223372036854775808 + (x : Int)) 10 ∧ 10 * Int.tdiv (-9223372036854775808 + (x : Int)) 10 ≥ -9223372036854775808 + (x : Int) ∧ Int.tdiv (-9223372036854775808 + (x : Int)) 10 ≤ -922337203685477579 := by decide +kernel
end Go.Mx
namespace Go.Proofs.YtloogjdafhjheaaDoor
open Go.RowKit Go.Mx
def NumPost (s : ByteArray) (w : World) (e : Ending) (w' : World) : Prop :=
  ∃ v b, e = .returned (.tuple #[.int .i64 v, .bool b]) ∧ St w w' [] [] ∧ (-9223372036854775808 ≤ v ∧ v ≤ 9223372036854775807) ∧ ∀ k : Nat, k ≤ 1073741824 → s.data.toList = Lib.decDigits k → v = k
/-- Dec tells some text, whatever the number. -/
def DecTold : Prop := ∀ (x : Int) (w : World), -9223372036854775808 ≤ x → x ≤ 9223372036854775807 → Calls Tryd.prog 26 #[.int .i64 x] w fun e w' => ∃ s, e = .returned (.string s) ∧ St w w' [] []
set_option maxRecDepth 100000 in
set_option maxHeartbeats 2000000 in
theorem numPos_any (hD : DecTold) (s : ByteArray) (w : World) (hl : s.size ≤ 140737488355328) (hneg : ∀ h : 0 < s.size, s[0] ≠ 45) :
    Calls Tryd.prog 33 #[.string s] w (NumPost s w) := by
  have hsz : s.data.toList.length = s.size := rfl
  have hget : ∀ i (h : i < s.size), s.data.toList[i]? = some s[i] := fun i h => List.getElem?_eq_getElem (by omega)
  have hDx := Mx.hid hD
  generalize hL : s.data.toList = L at *
  have HSL := Mx.hid hL
  have HNP := Mx.hid (fun (v : Int) (b : Bool) (w' : World) (hs : St w w' [] []) (h1 : -9223372036854775808 ≤ v ∧ v ≤ 9223372036854775807) (h2 : ∀ k : Nat, k ≤ 1073741824 → L = Lib.decDigits k → v = k) => (show NumPost s w (.returned (.tuple #[.int .i64 v, .bool b])) w' from ⟨v, b, rfl, hs, h1, by rw [hL]; exact h2⟩))
  have Hsz := Mx.hid hsz
  have Hget := Mx.hid hget
  clear hget hL hD
  by_cases h0 : s.size = 0
  · have HE := Mx.hid (fun k hk => num_len (D := L) (.inl (by omega)) (k := k) hk)
    have q0 : decide (0 < s.size) = false := decide_eq_false (by omega)
    have q1 : decide (s.size < 1) = true := decide_eq_true (by omega)
    clear hsz hneg
    go_enter Tryd.func33, Tryd.ntmps33
    go_wp2_with (first | ((with_reducible show wpList _ _ _ _ _ _); refine wpl_want rfl ?_))
    go_ret2
    exact HNP.out 0 false w (St.refl w) (by omega) (fun k hk he => absurd he (HE.out k hk))
  have hp : 0 < s.size := by omega
  have q2 : (((s[0]'hp).toNat : Int) == 45) = false := by
    rw [beq_eq_false_iff_ne]
    intro h
    exact hneg hp (UInt8.toNat_inj.1 (show (s[0]'hp).toNat = (45 : UInt8).toNat by have : (45 : UInt8).toNat = 45 := rfl; omega))
  clear hneg
  have q0 : decide (0 < s.size) = true := decide_eq_true hp
  have q1 : decide (s.size < 1) = false := decide_eq_false (by omega)
  by_cases h19 : 19 < s.size
  · have HE := Mx.hid (fun k hk => num_len (D := L) (.inr (by omega)) (k := k) hk)
    have q3 : decide (19 < s.size) = true := decide_eq_true h19
    clear hsz
    go_enter Tryd.func33, Tryd.ntmps33
    go_wp2_with (first | ((with_reducible show wpList _ _ _ _ _ _); refine wpl_want rfl ?_))
    go_ret2
    exact HNP.out 0 false w (St.refl w) (by omega) (fun k hk he => absurd he (HE.out k hk))
  have q3 : decide (19 < s.size) = false := decide_eq_false h19
  have hs19 : s.size ≤ 19 := by omega
  clear hsz h19
  go_enter Tryd.func33, Tryd.ntmps33
  go_wp2_with (first | ((with_reducible show wpList _ _ _ _ _ _); refine wpl_want rfl ?_))
  clear q0 q1 q2 q3
  go_loop [6, 7, 8] (fun z y y8 => ∃ (n : Int) (i : Nat), z = .int .i64 n ∧ y = .int .i64 i ∧ y8 = y8 ∧ i ≤ s.size ∧ -9223372036854775808 ≤ n ∧ n ≤ 0 ∧ Hid (NumK L n i)) (fun _ y _ => s.size - (intOf y).toNat)
  case atStart => exact ⟨0, 0, rfl, rfl, rfl, by omega, by omega, by omega, NumK.start L⟩
  case round =>
    obtain ⟨n, i, rfl, rfl, -, hi, hn0, hn1, HK⟩ := hrel
    by_cases hlt : i < s.size
    · have q1 := Hget.out i hlt
      have hiL : i < L.length := by rw [Hsz.out]; exact hlt
      rw [List.getElem?_eq_getElem hiL] at q1
      have HLI := Mx.hid (Option.some.inj q1)
      have HBAD := Mx.hid (fun (h : ((s[i]'hlt).toNat : Int) - 48 < 0 ∨ 9 < ((s[i]'hlt).toNat : Int) - 48) k => num_bad hiL (by rw [HLI.out]; exact h) k)
      have HSTEP := Mx.hid (fun (h : 0 ≤ ((s[i]'hlt).toNat : Int) - 48) => HK.out.step hiL hn1 (x := ((s[i]'hlt).toNat : Int) - 48) (by rw [HLI.out]) h)
      have HOVER := Mx.hid (fun h k hk => HK.out.over h (k := k) hk)
      have hlt2 := (s[i]'hlt).toNat_lt
      have hii : (i : Int) < (s.size : Int) := by omega
      clear q1 hiL HLI HK
      by_cases hlo : (s[i].toNat : Int) - 48 < 0
      · have d1 : decide ((s[i].toNat : Int) - 48 < 0) = true := decide_eq_true hlo
        have HB := Mx.hid (HBAD.out (.inl hlo))
        go_wp2_with (first | ((with_reducible show wpList _ _ _ _ _ _); refine wpl_want rfl ?_))
        go_ret2
        exact HNP.out 0 false _ (St.refl w) (by omega) (fun k _ he => absurd he (HB.out k))
      have d1 : decide ((s[i].toNat : Int) - 48 < 0) = false := decide_eq_false hlo
      by_cases hhi : 9 < (s[i].toNat : Int) - 48
      · have d2 : decide (9 < (s[i].toNat : Int) - 48) = true := decide_eq_true hhi
        have HB := Mx.hid (HBAD.out (.inr hhi))
        go_wp2_with (first | ((with_reducible show wpList _ _ _ _ _ _); refine wpl_want rfl ?_))
        go_ret2
        exact HNP.out 0 false _ (St.refl w) (by omega) (fun k _ he => absurd he (HB.out k))
      have d2 : decide (9 < (s[i].toNat : Int) - 48) = false := decide_eq_false hhi
      obtain ⟨t, ht, t1, t2, t3⟩ : ∃ t : Int, (-9223372036854775808 + ((s[i].toNat : Int) - 48)).tdiv 10 = t ∧ -922337203685477580 ≤ t ∧ 10 * t ≥ -9223372036854775808 + ((s[i].toNat : Int) - 48) ∧ t ≤ -922337203685477579 := by
        have hq := num_quo (s[i].toNat - 48) (by omega)
        rw [show ((s[i].toNat - 48 : Nat) : Int) = (s[i].toNat : Int) - 48 by omega] at hq
        exact ⟨_, rfl, hq⟩
      by_cases hov : n < t
      · have d3 : decide (n < t) = true := decide_eq_true hov
        have HB := Mx.hid (fun k hk => HOVER.out (by omega) k hk)
        go_wp2_with (first | ((with_reducible show wpList _ _ _ _ _ _); refine wpl_want rfl ?_))
        go_ret2
        exact HNP.out 0 false _ (St.refl w) (by omega) (fun k hk he => absurd he (HB.out k hk))
      have d3 : decide (n < t) = false := decide_eq_false hov
      have b1 : -9223372036854775808 ≤ 10 * n := by omega
      have b2 : -9223372036854775808 ≤ 10 * n - ((s[i].toNat : Int) - 48) := by omega
      have b3 : 10 * n - ((s[i].toNat : Int) - 48) ≤ 0 := by omega
      have HS2 := Mx.hid (HSTEP.out (by omega))
      go_wp2_with (first | ((with_reducible show wpList _ _ _ _ _ _); refine wpl_want rfl ?_))
      exact ⟨⟨_, i + 1, rfl, by go_num, trivial, by omega, b2, b3, HS2.out⟩, by simp [intOf]; omega⟩
    · obtain rfl : i = s.size := by omega
      have HF := Mx.hid (fun k hk he => NumK.fin (D := L) (n := n) (by rw [Hsz.out]; exact HK.out) hn1 (k := k) hk he)
      clear HK
      by_cases hm : n = -9223372036854775808
      · have d4 : (n == -9223372036854775808) = true := by simpa using hm
        have HB := Mx.hid (fun (k : Nat) (hk : k ≤ 1073741824) (he : L = Lib.decDigits k) => (show False by have := HF.out k hk he; omega))
        go_wp2_with (first | ((with_reducible show wpList _ _ _ _ _ _); refine wpl_want rfl ?_))
        go_ret2
        exact HNP.out 0 false _ (St.refl w) (by omega) (fun k hk he => (HB.out k hk he).elim)
      have d4 : (n == -9223372036854775808) = false := by simpa using hm
      have b1 : -9223372036854775807 ≤ n := by omega
      go_wp2_with (first | ((with_reducible show wpList _ _ _ _ _ _); refine wpl_want rfl ?_))
      refine (hDx.out (-n) w (by omega) (by omega)).mono ?_
      rintro e w2 ⟨q, rfl, hk⟩
      go_wp2_with (first | ((with_reducible show wpList _ _ _ _ _ _); refine wpl_want rfl ?_))
      go_ret2
      exact HNP.out (-n) _ _ hk (by omega) (fun k hk he => HF.out k hk he)
set_option maxRecDepth 100000 in
set_option maxHeartbeats 2000000 in
theorem numNeg_any (hD : DecTold) (s : ByteArray) (w : World) (hl : s.size ≤ 140737488355328) (hp : 0 < s.size) (hneg : s[0] = 45) :
    Calls Tryd.prog 33 #[.string s] w (NumPost s w) := by
  have hDx := Mx.hid hD
  have HNP := Mx.hid (fun (v : Int) (b : Bool) (w' : World) (hs : St w w' [] []) (h1 : -9223372036854775808 ≤ v ∧ v ≤ 9223372036854775807) => (show NumPost s w (.returned (.tuple #[.int .i64 v, .bool b])) w' from ⟨v, b, rfl, hs, h1, fun k hk he => by
    have hm : s.data.toList[0]'hp ∈ s.data.toList := List.getElem_mem _
    have hd := dec_dig k (s.data.toList[0]'hp) (by rw [← he]; exact hm)
    have e : s.data.toList[0]'hp = s[0] := rfl
    rw [e, hneg] at hd
    exact absurd hd (by decide)⟩))
  have q2 : ((s[0].toNat : Int) == 45) = true := by rw [hneg]; rfl
  have q0 : decide (0 < s.size) = true := decide_eq_true hp
  clear hneg hD
  go_enter Tryd.func33, Tryd.ntmps33
  go_upto_region 5 with (first | ((with_reducible show wpList _ _ _ _ _ _); refine wpl_want rfl ?_))
  have hdz : (s.extract 1 s.size).size ≤ 140737488355328 := by rw [ByteArray.size_extract]; omega
  generalize s.extract 1 s.size = d at *
  clear q0 q2
  by_cases h0 : d.size = 0
  · have q1 : decide (d.size < 1) = true := decide_eq_true (by omega)
    go_wp2_with (first | ((with_reducible show wpList _ _ _ _ _ _); refine wpl_want rfl ?_))
    go_ret2
    exact HNP.out 0 false w (St.refl w) (by omega)
  have hp2 : 0 < d.size := by omega
  have q1 : decide (d.size < 1) = false := decide_eq_false (by omega)
  by_cases h19 : 19 < d.size
  · have q3 : decide (19 < d.size) = true := decide_eq_true h19
    go_wp2_with (first | ((with_reducible show wpList _ _ _ _ _ _); refine wpl_want rfl ?_))
    go_ret2
    exact HNP.out 0 false w (St.refl w) (by omega)
  have q3 : decide (19 < d.size) = false := decide_eq_false h19
  have hd19 : d.size ≤ 19 := by omega
  clear h19
  go_wp2_with (first | ((with_reducible show wpList _ _ _ _ _ _); refine wpl_want rfl ?_))
  clear q1 q3
  go_loop [6, 7, 8] (fun z y y8 => ∃ (n : Int) (i : Nat), z = .int .i64 n ∧ y = .int .i64 i ∧ y8 = y8 ∧ i ≤ d.size ∧ -9223372036854775808 ≤ n ∧ n ≤ 0) (fun _ y _ => d.size - (intOf y).toNat)
  case atStart => exact ⟨0, 0, rfl, rfl, rfl, by omega, by omega, by omega⟩
  case round =>
    obtain ⟨n, i, rfl, rfl, -, hi, hn0, hn1⟩ := hrel
    by_cases hlt : i < d.size
    · have hlt2 := (d[i]'hlt).toNat_lt
      have hii : (i : Int) < (d.size : Int) := by omega
      by_cases hlo : (d[i].toNat : Int) - 48 < 0
      · have d1 : decide ((d[i].toNat : Int) - 48 < 0) = true := decide_eq_true hlo
        go_wp2_with (first | ((with_reducible show wpList _ _ _ _ _ _); refine wpl_want rfl ?_))
        go_ret2
        exact HNP.out 0 false _ (St.refl w) (by omega)
      have d1 : decide ((d[i].toNat : Int) - 48 < 0) = false := decide_eq_false hlo
      by_cases hhi : 9 < (d[i].toNat : Int) - 48
      · have d2 : decide (9 < (d[i].toNat : Int) - 48) = true := decide_eq_true hhi
        go_wp2_with (first | ((with_reducible show wpList _ _ _ _ _ _); refine wpl_want rfl ?_))
        go_ret2
        exact HNP.out 0 false _ (St.refl w) (by omega)
      have d2 : decide (9 < (d[i].toNat : Int) - 48) = false := decide_eq_false hhi
      obtain ⟨t, ht, t1, t2, t3⟩ : ∃ t : Int, (-9223372036854775808 + ((d[i].toNat : Int) - 48)).tdiv 10 = t ∧ -922337203685477580 ≤ t ∧ 10 * t ≥ -9223372036854775808 + ((d[i].toNat : Int) - 48) ∧ t ≤ -922337203685477579 := by
        have hq := num_quo (d[i].toNat - 48) (by omega)
        rw [show ((d[i].toNat - 48 : Nat) : Int) = (d[i].toNat : Int) - 48 by omega] at hq
        exact ⟨_, rfl, hq⟩
      by_cases hov : n < t
      · have d3 : decide (n < t) = true := decide_eq_true hov
        go_wp2_with (first | ((with_reducible show wpList _ _ _ _ _ _); refine wpl_want rfl ?_))
        go_ret2
        exact HNP.out 0 false _ (St.refl w) (by omega)
      have d3 : decide (n < t) = false := decide_eq_false hov
      have b1 : -9223372036854775808 ≤ 10 * n := by omega
      have b2 : -9223372036854775808 ≤ 10 * n - ((d[i].toNat : Int) - 48) := by omega
      have b3 : 10 * n - ((d[i].toNat : Int) - 48) ≤ 0 := by omega
      go_wp2_with (first | ((with_reducible show wpList _ _ _ _ _ _); refine wpl_want rfl ?_))
      exact ⟨⟨_, i + 1, rfl, by go_num, trivial, by omega, b2, b3⟩, by simp [intOf]; omega⟩
    · go_wp2_with (first | ((with_reducible show wpList _ _ _ _ _ _); refine wpl_want rfl ?_))
      refine (hDx.out n w (by omega) (by omega)).mono ?_
      rintro e w2 ⟨q, rfl, hk⟩
      go_wp2_with (first | ((with_reducible show wpList _ _ _ _ _ _); refine wpl_want rfl ?_))
      go_ret2
      exact HNP.out n _ _ hk (by omega)
theorem num_any (hD : DecTold) (s : ByteArray) (w : World) (hl : s.size ≤ 140737488355328) : Calls Tryd.prog 33 #[.string s] w (NumPost s w) := by
  by_cases h : ∃ hp : 0 < s.size, s[0] = 45
  · obtain ⟨hp, hn⟩ := h
    exact numNeg_any hD s w hl hp hn
  · exact numPos_any hD s w hl (fun hp hn => h ⟨hp, hn⟩)
end Go.Proofs.YtloogjdafhjheaaDoor

namespace Go.Mx
open Go Go.RowKit
theorem strP_add (l m : List UInt8) : str l ++ str m = str (l ++ m) := by
  apply ByteArray.ext
  simp [str]
theorem dec_small {n : Nat} (h : n < 10) : Lib.decDigits n = [UInt8.ofNat (48 + n)] := by rw [Lib.decDigits, dif_pos h]
theorem dec_big {n : Nat} (h : ¬ n < 10) : Lib.decDigits n = Lib.decDigits (n / 10) ++ [UInt8.ofNat (48 + n % 10)] := by rw [Lib.decDigits, dif_neg h]
theorem one_dig {k : Nat} (h : k < 256) : bs [UInt8.ofNat k] = [.int .u8 (k : Int)] := by
  unfold bs
  simp only [List.map_cons, List.map_nil, UInt8.toNat_ofNat']
  rw [Nat.mod_eq_of_lt (by omega)]
end Go.Mx
namespace Go.Proofs.YtloogjdafhjheaaDoor
open Go.RowKit Go.Mx
set_option maxRecDepth 100000 in
set_option maxHeartbeats 2000000 in
theorem decNat_any : ∀ (n : Nat), n ≤ 9223372036854775807 → ∀ (w : World), Calls Tryd.prog 26 #[.int .i64 (n : Int)] w fun e w' => e = .returned (.string (str (Lib.decDigits n))) ∧ St w w' [] [] := by
  intro n
  induction n using Nat.strongRecOn with
  | ind n ih =>
  intro hn w
  have q1 : decide ((n : Int) < 0) = false := decide_eq_false (by omega)
  by_cases h10 : n < 10
  · have h1 : (St w (w.alloc (.cells #[.int .u8 (48 + (n : Int))] 5)) [⟨.slice (some ⟨w.heap.size, 0, none⟩) 1 1, 5, 1, 1, bs [UInt8.ofNat (48 + n)]⟩] []) :=
      ((St.refl w).made #[.int .u8 (48 + (n : Int))] 5 1 1 rfl (by simp [maxLen])).cast rfl (by rw [one_dig (by omega)]; rfl)
    have HD := Mx.hid (dec_small h10)
    generalize UInt8.ofNat (48 + n) = c at *
    have q2 : decide ((n : Int) < 10) = true := decide_eq_true (by omega)
    have hsl := h1.sl0
    clear ih
    go_enter Tryd.func26, Tryd.ntmps26
    go_wp2_with (first | ((with_reducible show wpList _ _ _ _ _ _); refine wpl_want rfl ?_) | ((with_reducible show wpList _ _ _ _ _ _); refine wpl_b2s rfl 23 9 5 _ rfl Tryd.underlying23 Tryd.underlying5 Tryd.underlying9 (by exact hsl) ?_))
    go_ret
    exact ⟨by rw [HD.out]; rfl, h1.bare⟩
  have HD := Mx.hid (dec_big h10)
  obtain ⟨p, hp⟩ : ∃ p, p = n / 10 := ⟨_, rfl⟩
  obtain ⟨r, hr⟩ : ∃ r, r = n % 10 := ⟨_, rfl⟩
  rw [← hp, ← hr] at HD
  have hb1 := one_dig (k := 48 + r) (by omega)
  rw [show ((48 + r : Nat) : Int) = 48 + (r : Int) by omega] at hb1
  have HB := Mx.hid hb1
  clear hb1
  generalize UInt8.ofNat (48 + r) = c at *
  have HIH := Mx.hid (ih p (by omega) (by omega))
  have w1 : IntKind.i64.wrap ((n : Int) / 10) = (p : Int) := by rw [IntWalk.i64_in _ (by omega)]; omega
  have w2 : (n : Int).tmod 10 = (r : Int) := by rw [Int.tmod_eq_emod_of_nonneg (by omega)]; omega
  have hr10 : r < 10 := by omega
  have w3 : IntKind.i64.wrap (48 + (r : Int)) = 48 + (r : Int) := IntWalk.i64_in _ (by omega)
  have w4 : IntKind.u8.wrap (48 + (r : Int)) = 48 + (r : Int) := by rw [IntKind.wrap_u8]; omega
  have hz1 : (str (Lib.decDigits p)).size ≤ 19 := by rw [str_size]; have := dec_len 18 p (by omega); omega
  have hz2 : ∀ c : UInt8, (str [c]).size ≤ 1 := fun c => by rw [str_size]; simp
  have hz3 := hz2 c
  clear hp hr hz2
  have q2 : decide ((n : Int) < 10) = false := decide_eq_false (by omega)
  clear ih
  go_enter Tryd.func26, Tryd.ntmps26
  go_upto_region 7 with (first | ((with_reducible show wpList _ _ _ _ _ _); refine wpl_want rfl ?_))
  (refine wp_region_S (9) (fun _ => True) (by kernel_rfl) ?_ (fun hHeld => ?_); (focus ((try dsimp only); (first | done | trivial))))
  (refine wpAnyS_takeW (i := 0) (v := ?_) rfl (by kernel_rfl) (by kernel_rfl) (by kernel_rfl) (by kernel_rfl) (fun _ _ _ h => h) (Or.inl ⟨by rfl, ?_⟩) hHeld ?_; rotate_left 1; (focus (intro w' hSw; go_simp; (try with_reducible rfl))); (try simp only [Act.put, List.setIfInBounds_toArray, List.set_cons_zero, List.set_cons_succ]))
  (refine wpAnyS_takeW (i := 1) (v := ?_) rfl (by kernel_rfl) (by kernel_rfl) (by kernel_rfl) (by kernel_rfl) (fun _ _ _ h => h) (Or.inl ⟨by rfl, ?_⟩) hHeld ?_; rotate_left 1; (focus (intro w' hSw; go_simp; (try with_reducible rfl))); (try simp only [Act.put, List.setIfInBounds_toArray, List.set_cons_zero, List.set_cons_succ]))
  (refine wpAnyS_takeW (i := 3) (v := ?_) rfl (by kernel_rfl) (by kernel_rfl) (by kernel_rfl) (by kernel_rfl) (fun _ _ _ h => h) (Or.inl ⟨by rfl, ?_⟩) hHeld ?_; rotate_left 1; (focus (intro w' hSw; go_simp; (try with_reducible rfl))); (try simp only [Act.put, List.setIfInBounds_toArray, List.set_cons_zero, List.set_cons_succ]))
  (refine wpAnyS_takeW (i := 4) (v := ?_) rfl (by kernel_rfl) (by kernel_rfl) (by kernel_rfl) (by kernel_rfl) (fun _ _ _ h => h) (Or.inl ⟨by rfl, ?_⟩) hHeld ?_; rotate_left 1; (focus (intro w' hSw; go_simp; (try with_reducible rfl))); (try simp only [Act.put, List.setIfInBounds_toArray, List.set_cons_zero, List.set_cons_succ]))
  (refine wpAnyS_takeW (i := 5) (v := ?_) rfl (by kernel_rfl) (by kernel_rfl) (by kernel_rfl) (by kernel_rfl) (fun _ _ _ h => h) (Or.inl ⟨by rfl, ?_⟩) hHeld ?_; rotate_left 1; (focus (intro w' hSw; go_simp; (try with_reducible rfl))); (try simp only [Act.put, List.setIfInBounds_toArray, List.set_cons_zero, List.set_cons_succ]))
  (refine wpAnyS_takeW (i := 6) (v := ?_) rfl (by kernel_rfl) (by kernel_rfl) (by kernel_rfl) (by kernel_rfl) (fun _ _ _ h => h) (Or.inl ⟨by rfl, ?_⟩) hHeld ?_; rotate_left 1; (focus (intro w' hSw; go_simp; (try with_reducible rfl))); (try simp only [Act.put, List.setIfInBounds_toArray, List.set_cons_zero, List.set_cons_succ]))
  have hc : St w w.drew [] [] := (St.refl w).drew
  generalize w.drew = W at hc hHeld ⊢
  refine wpAnyS_ready (rs := [2, 7]) (by kernel_rfl) (by simp) ?_
  refine AllS.consL rfl (fun K hK => ?_) ?_
  · (go_simp; go_at_call 26; refine (HIH.out W).mono ?_; rintro e w' ⟨rfl, hk⟩; go_wp2_with fail)
    replace hc := hc.call0 hk
    (refine hK.out _ _ ?_ (fun hHeld => ?_); (focus ((try dsimp only); (first | done | trivial))); clear hK K; (try simp only [Act.put, List.setIfInBounds_toArray, List.set_cons_zero, List.set_cons_succ]))
    obtain ⟨W, rfl⟩ : ∃ W : World, W = w' := ⟨_, rfl⟩
    clear hk
    (refine wpAnyS_ready (rs := [7]) (by kernel_rfl) (by simp) ?_; refine AllS.consL rfl (fun K hK => ?_) AllS.nil)
    go_simp
    have hm := (hc.made #[.int .u8 (48 + (r : Int))] 5 1 1 rfl (by simp [maxLen])).cast rfl HB.out.symm
    change St w (W.alloc (Obj.cells #[.int .u8 (48 + (r : Int))] 5)) _ _ at hm
    generalize W.alloc (Obj.cells #[.int .u8 (48 + (r : Int))] 5) = W2 at hm ⊢
    generalize W.heap.size = gW at hm ⊢
    (refine hK.out _ _ ?_ (fun hHeld => ?_); (focus ((try dsimp only); (first | done | trivial))); clear hK K; (try simp only [Act.put, List.setIfInBounds_toArray, List.set_cons_zero, List.set_cons_succ]))
    (refine wpAnyS_ready (rs := [8]) (by kernel_rfl) (by simp) ?_; refine AllS.consL rfl (fun K hK => ?_) AllS.nil)
    have hb2 := run_b2s (P := Tryd.prog) 23 9 5 hm.sl0 Tryd.underlying23 Tryd.underlying5 Tryd.underlying9
    go_simp
    (refine hK.out _ _ ?_ (fun hHeld => ?_); (focus ((try dsimp only); (first | done | trivial))); clear hK K; (try simp only [Act.put, List.setIfInBounds_toArray, List.set_cons_zero, List.set_cons_succ]))
    clear hb2
    (refine wpAnyS_seq (by rfl) (by kernel_rfl) ?_; simp only [List.drop_succ_cons, List.drop_zero])
    clear hHeld
    go_wp2_with fail
    go_ret
    exact ⟨by rw [HD.out, ← strP_add]; rfl, hm.bare⟩
  refine AllS.consL rfl (fun K hK => ?_) AllS.nil
  go_simp
  have hm := (hc.made #[.int .u8 (48 + (r : Int))] 5 1 1 rfl (by simp [maxLen])).cast rfl HB.out.symm
  change St w (W.alloc (Obj.cells #[.int .u8 (48 + (r : Int))] 5)) _ _ at hm
  generalize W.alloc (Obj.cells #[.int .u8 (48 + (r : Int))] 5) = W2 at hm ⊢
  generalize W.heap.size = gW at hm ⊢
  (refine hK.out _ _ ?_ (fun hHeld => ?_); (focus ((try dsimp only); (first | done | trivial))); clear hK K; (try simp only [Act.put, List.setIfInBounds_toArray, List.set_cons_zero, List.set_cons_succ]))
  refine wpAnyS_ready (rs := [2, 8]) (by kernel_rfl) (by simp) ?_
  refine AllS.consL rfl (fun K hK => ?_) ?_
  · (go_simp; go_at_call 26; refine (HIH.out W2).mono ?_; rintro e w' ⟨rfl, hk⟩; go_wp2_with fail)
    replace hm := hm.call0 hk
    (refine hK.out _ _ ?_ (fun hHeld => ?_); (focus ((try dsimp only); (first | done | trivial))); clear hK K; (try simp only [Act.put, List.setIfInBounds_toArray, List.set_cons_zero, List.set_cons_succ]))
    obtain ⟨W2, rfl⟩ : ∃ W : World, W = w' := ⟨_, rfl⟩
    clear hk
    (refine wpAnyS_ready (rs := [8]) (by kernel_rfl) (by simp) ?_; refine AllS.consL rfl (fun K hK => ?_) AllS.nil)
    have hb2 := run_b2s (P := Tryd.prog) 23 9 5 hm.sl0 Tryd.underlying23 Tryd.underlying5 Tryd.underlying9
    go_simp
    (refine hK.out _ _ ?_ (fun hHeld => ?_); (focus ((try dsimp only); (first | done | trivial))); clear hK K; (try simp only [Act.put, List.setIfInBounds_toArray, List.set_cons_zero, List.set_cons_succ]))
    clear hb2
    (refine wpAnyS_seq (by rfl) (by kernel_rfl) ?_; simp only [List.drop_succ_cons, List.drop_zero])
    clear hHeld
    go_wp2_with fail
    go_ret
    exact ⟨by rw [HD.out, ← strP_add]; rfl, hm.bare⟩
  refine AllS.consL rfl (fun K hK => ?_) AllS.nil
  have hb2 := run_b2s (P := Tryd.prog) 23 9 5 hm.sl0 Tryd.underlying23 Tryd.underlying5 Tryd.underlying9
  go_simp
  (refine hK.out _ _ ?_ (fun hHeld => ?_); (focus ((try dsimp only); (first | done | trivial))); clear hK K; (try simp only [Act.put, List.setIfInBounds_toArray, List.set_cons_zero, List.set_cons_succ]))
  clear hb2
  (refine wpAnyS_ready (rs := [2]) (by kernel_rfl) (by simp) ?_; refine AllS.consL rfl (fun K hK => ?_) AllS.nil)
  (go_simp; go_at_call 26; refine (HIH.out W2).mono ?_; rintro e w' ⟨rfl, hk⟩; go_wp2_with fail)
  replace hm := hm.call0 hk
  (refine hK.out _ _ ?_ (fun hHeld => ?_); (focus ((try dsimp only); (first | done | trivial))); clear hK K; (try simp only [Act.put, List.setIfInBounds_toArray, List.set_cons_zero, List.set_cons_succ]))
  obtain ⟨W2, rfl⟩ : ∃ W : World, W = w' := ⟨_, rfl⟩
  clear hk
  (refine wpAnyS_seq (by rfl) (by kernel_rfl) ?_; simp only [List.drop_succ_cons, List.drop_zero])
  clear hHeld
  go_wp2_with fail
  go_ret
  exact ⟨by rw [HD.out, ← strP_add]; rfl, hm.bare⟩
set_option maxRecDepth 100000 in
set_option maxHeartbeats 2000000 in
theorem decNeg_any (x : Int) (hx : x < 0) (hx2 : -9223372036854775808 ≤ x) (w : World) : Calls Tryd.prog 26 #[.int .i64 x] w fun e w' => ∃ s, e = .returned (.string s) ∧ St w w' [] [] := by
  obtain ⟨m, rfl⟩ : ∃ m : Nat, x = -(m : Int) := ⟨x.natAbs, by omega⟩
  have ht0 : (-(m : Int)).tdiv 10 = -((m / 10 : Nat) : Int) := by rw [Int.neg_tdiv]; rfl
  have hu0 : (-(m : Int)).tmod 10 = -((m % 10 : Nat) : Int) := by rw [Int.neg_tmod]; rfl
  have hmm : m ≤ 9223372036854775808 := by omega
  generalize -(m : Int) = x at *
  obtain ⟨t, ht⟩ : ∃ t, x.tdiv 10 = t := ⟨_, rfl⟩
  obtain ⟨u, hu⟩ : ∃ u, x.tmod 10 = u := ⟨_, rfl⟩
  rw [ht] at ht0
  rw [hu] at hu0
  have t1 : -922337203685477580 ≤ t := by omega
  have t2 : t ≤ 0 := by omega
  have u1 : -9 ≤ u := by omega
  have u2 : u ≤ 0 := by omega
  have hih := decNat_any (m / 10) (by omega)
  rw [show ((m / 10 : Nat) : Int) = -t by omega] at hih
  have HIH := Mx.hid hih
  have hb1 := one_dig (k := 48 + m % 10) (by omega)
  rw [show ((48 + m % 10 : Nat) : Int) = 48 - u by omega] at hb1
  have HB := Mx.hid hb1
  have hz1 : (str (Lib.decDigits (m / 10))).size ≤ 19 := by rw [str_size]; have := dec_len 18 (m / 10) (by omega); omega
  generalize UInt8.ofNat (48 + m % 10) = c at *
  have hz3 : (str [c]).size ≤ 1 := by rw [str_size]; simp
  generalize str (Lib.decDigits (m / 10)) = sp at *
  have hz0 : (⟨#[45]⟩ : ByteArray).size = 1 := rfl
  have q1 : decide (x < 0) = true := decide_eq_true hx
  clear ht0 hu0 hih hb1 hmm
  by_cases h0 : t = 0
  · have q2 : (t == 0) = true := by simpa using h0
    have h1 : (St w (w.alloc (.cells #[.int .u8 (48 - u)] 5)) [⟨.slice (some ⟨w.heap.size, 0, none⟩) 1 1, 5, 1, 1, bs [c]⟩] []) :=
      ((St.refl w).made #[.int .u8 (48 - u)] 5 1 1 rfl (by simp [maxLen])).cast rfl HB.out.symm
    have hsl := h1.sl0
    clear HIH h0
    go_enter Tryd.func26, Tryd.ntmps26
    go_wp2_with (first | ((with_reducible show wpList _ _ _ _ _ _); refine wpl_want rfl ?_) | ((with_reducible show wpList _ _ _ _ _ _); refine wpl_b2s rfl 23 9 5 _ rfl Tryd.underlying23 Tryd.underlying5 Tryd.underlying9 (by exact hsl) ?_))
    go_ret
    exact ⟨_, rfl, h1.bare⟩
  have q2 : (t == 0) = false := by simpa using h0
  have w1 : IntKind.i64.wrap t = t := IntWalk.i64_in _ (by omega)
  have w2 : IntKind.i64.wrap (-t) = -t := IntWalk.i64_in _ (by omega)
  have w3 : IntKind.i64.wrap (48 - u) = 48 - u := IntWalk.i64_in _ (by omega)
  have w4 : IntKind.u8.wrap (48 - u) = 48 - u := by rw [IntKind.wrap_u8]; omega
  go_enter Tryd.func26, Tryd.ntmps26
  go_upto_region 4 with (first | ((with_reducible show wpList _ _ _ _ _ _); refine wpl_want rfl ?_))
  (refine wp_region_S (11) (fun _ => True) (by kernel_rfl) ?_ (fun hHeld => ?_); (focus ((try dsimp only); (first | done | trivial))))
  (refine wpAnyS_takeW (i := 0) (v := ?_) rfl (by kernel_rfl) (by kernel_rfl) (by kernel_rfl) (by kernel_rfl) (fun _ _ _ h => h) (Or.inl ⟨by rfl, ?_⟩) hHeld ?_; rotate_left 1; (focus (intro w' hSw; go_simp; (try with_reducible rfl))); (try simp only [Act.put, List.setIfInBounds_toArray, List.set_cons_zero, List.set_cons_succ]))
  (refine wpAnyS_takeW (i := 1) (v := ?_) rfl (by kernel_rfl) (by kernel_rfl) (by kernel_rfl) (by kernel_rfl) (fun _ _ _ h => h) (Or.inl ⟨by rfl, ?_⟩) hHeld ?_; rotate_left 1; (focus (intro w' hSw; go_simp; (try with_reducible rfl))); (try simp only [Act.put, List.setIfInBounds_toArray, List.set_cons_zero, List.set_cons_succ]))
  (refine wpAnyS_takeW (i := 2) (v := ?_) rfl (by kernel_rfl) (by kernel_rfl) (by kernel_rfl) (by kernel_rfl) (fun _ _ _ h => h) (Or.inl ⟨by rfl, ?_⟩) hHeld ?_; rotate_left 1; (focus (intro w' hSw; go_simp; (try with_reducible rfl))); (try simp only [Act.put, List.setIfInBounds_toArray, List.set_cons_zero, List.set_cons_succ]))
  (refine wpAnyS_takeW (i := 5) (v := ?_) rfl (by kernel_rfl) (by kernel_rfl) (by kernel_rfl) (by kernel_rfl) (fun _ _ _ h => h) (Or.inl ⟨by rfl, ?_⟩) hHeld ?_; rotate_left 1; (focus (intro w' hSw; go_simp; (try with_reducible rfl))); (try simp only [Act.put, List.setIfInBounds_toArray, List.set_cons_zero, List.set_cons_succ]))
  (refine wpAnyS_takeW (i := 6) (v := ?_) rfl (by kernel_rfl) (by kernel_rfl) (by kernel_rfl) (by kernel_rfl) (fun _ _ _ h => h) (Or.inl ⟨by rfl, ?_⟩) hHeld ?_; rotate_left 1; (focus (intro w' hSw; go_simp; (try with_reducible rfl))); (try simp only [Act.put, List.setIfInBounds_toArray, List.set_cons_zero, List.set_cons_succ]))
  (refine wpAnyS_takeW (i := 7) (v := ?_) rfl (by kernel_rfl) (by kernel_rfl) (by kernel_rfl) (by kernel_rfl) (fun _ _ _ h => h) (Or.inl ⟨by rfl, ?_⟩) hHeld ?_; rotate_left 1; (focus (intro w' hSw; go_simp; (try with_reducible rfl))); (try simp only [Act.put, List.setIfInBounds_toArray, List.set_cons_zero, List.set_cons_succ]))
  (refine wpAnyS_takeW (i := 8) (v := ?_) rfl (by kernel_rfl) (by kernel_rfl) (by kernel_rfl) (by kernel_rfl) (fun _ _ _ h => h) (Or.inl ⟨by rfl, ?_⟩) hHeld ?_; rotate_left 1; (focus (intro w' hSw; go_simp; (try with_reducible rfl))); (try simp only [Act.put, List.setIfInBounds_toArray, List.set_cons_zero, List.set_cons_succ]))
  have hc : St w w.drew [] [] := (St.refl w).drew
  generalize w.drew = W at hc hHeld ⊢
  refine wpAnyS_ready (rs := [3, 9]) (by kernel_rfl) (by simp) ?_
  refine AllS.consL rfl (fun K hK => ?_) ?_
  · (go_simp; go_at_call 26; refine (HIH.out W).mono ?_; rintro e w' ⟨rfl, hk⟩; go_wp2_with fail)
    replace hc := hc.call0 hk
    (refine hK.out _ _ ?_ (fun hHeld => ?_); (focus ((try dsimp only); (first | done | trivial))); clear hK K; (try simp only [Act.put, List.setIfInBounds_toArray, List.set_cons_zero, List.set_cons_succ]))
    obtain ⟨W, rfl⟩ : ∃ W : World, W = w' := ⟨_, rfl⟩
    clear hk
    (refine wpAnyS_takeW (i := 4) (v := ?_) rfl (by kernel_rfl) (by kernel_rfl) (by kernel_rfl) (by kernel_rfl) (fun _ _ _ h => h) (Or.inl ⟨by rfl, ?_⟩) hHeld ?_; rotate_left 1; (focus (intro w' hSw; go_simp; (try with_reducible rfl))); (try simp only [Act.put, List.setIfInBounds_toArray, List.set_cons_zero, List.set_cons_succ]))
    · rw [if_neg (by omega)]
    (refine wpAnyS_ready (rs := [9]) (by kernel_rfl) (by simp) ?_; refine AllS.consL rfl (fun K hK => ?_) AllS.nil)
    go_simp
    have hm := (hc.made #[.int .u8 (48 - u)] 5 1 1 rfl (by simp [maxLen])).cast rfl HB.out.symm
    change St w (W.alloc (Obj.cells #[.int .u8 (48 - u)] 5)) _ _ at hm
    generalize W.alloc (Obj.cells #[.int .u8 (48 - u)] 5) = W2 at hm ⊢
    generalize W.heap.size = gW at hm ⊢
    (refine hK.out _ _ ?_ (fun hHeld => ?_); (focus ((try dsimp only); (first | done | trivial))); clear hK K; (try simp only [Act.put, List.setIfInBounds_toArray, List.set_cons_zero, List.set_cons_succ]))
    (refine wpAnyS_ready (rs := [10]) (by kernel_rfl) (by simp) ?_; refine AllS.consL rfl (fun K hK => ?_) AllS.nil)
    have hb2 := run_b2s (P := Tryd.prog) 23 9 5 hm.sl0 Tryd.underlying23 Tryd.underlying5 Tryd.underlying9
    go_simp
    (refine hK.out _ _ ?_ (fun hHeld => ?_); (focus ((try dsimp only); (first | done | trivial))); clear hK K; (try simp only [Act.put, List.setIfInBounds_toArray, List.set_cons_zero, List.set_cons_succ]))
    clear hb2
    (refine wpAnyS_seq (by rfl) (by kernel_rfl) ?_; simp only [List.drop_succ_cons, List.drop_zero])
    clear hHeld
    go_wp2_with fail
    go_ret
    exact ⟨_, rfl, hm.bare⟩
  refine AllS.consL rfl (fun K hK => ?_) AllS.nil
  go_simp
  have hm := (hc.made #[.int .u8 (48 - u)] 5 1 1 rfl (by simp [maxLen])).cast rfl HB.out.symm
  change St w (W.alloc (Obj.cells #[.int .u8 (48 - u)] 5)) _ _ at hm
  generalize W.alloc (Obj.cells #[.int .u8 (48 - u)] 5) = W2 at hm ⊢
  generalize W.heap.size = gW at hm ⊢
  (refine hK.out _ _ ?_ (fun hHeld => ?_); (focus ((try dsimp only); (first | done | trivial))); clear hK K; (try simp only [Act.put, List.setIfInBounds_toArray, List.set_cons_zero, List.set_cons_succ]))
  refine wpAnyS_ready (rs := [3, 10]) (by kernel_rfl) (by simp) ?_
  refine AllS.consL rfl (fun K hK => ?_) ?_
  · (go_simp; go_at_call 26; refine (HIH.out W2).mono ?_; rintro e w' ⟨rfl, hk⟩; go_wp2_with fail)
    replace hm := hm.call0 hk
    (refine hK.out _ _ ?_ (fun hHeld => ?_); (focus ((try dsimp only); (first | done | trivial))); clear hK K; (try simp only [Act.put, List.setIfInBounds_toArray, List.set_cons_zero, List.set_cons_succ]))
    obtain ⟨W2, rfl⟩ : ∃ W : World, W = w' := ⟨_, rfl⟩
    clear hk
    (refine wpAnyS_takeW (i := 4) (v := ?_) rfl (by kernel_rfl) (by kernel_rfl) (by kernel_rfl) (by kernel_rfl) (fun _ _ _ h => h) (Or.inl ⟨by rfl, ?_⟩) hHeld ?_; rotate_left 1; (focus (intro w' hSw; go_simp; (try with_reducible rfl))); (try simp only [Act.put, List.setIfInBounds_toArray, List.set_cons_zero, List.set_cons_succ]))
    · rw [if_neg (by omega)]
    (refine wpAnyS_ready (rs := [10]) (by kernel_rfl) (by simp) ?_; refine AllS.consL rfl (fun K hK => ?_) AllS.nil)
    have hb2 := run_b2s (P := Tryd.prog) 23 9 5 hm.sl0 Tryd.underlying23 Tryd.underlying5 Tryd.underlying9
    go_simp
    (refine hK.out _ _ ?_ (fun hHeld => ?_); (focus ((try dsimp only); (first | done | trivial))); clear hK K; (try simp only [Act.put, List.setIfInBounds_toArray, List.set_cons_zero, List.set_cons_succ]))
    clear hb2
    (refine wpAnyS_seq (by rfl) (by kernel_rfl) ?_; simp only [List.drop_succ_cons, List.drop_zero])
    clear hHeld
    go_wp2_with fail
    go_ret
    exact ⟨_, rfl, hm.bare⟩
  refine AllS.consL rfl (fun K hK => ?_) AllS.nil
  have hb2 := run_b2s (P := Tryd.prog) 23 9 5 hm.sl0 Tryd.underlying23 Tryd.underlying5 Tryd.underlying9
  go_simp
  (refine hK.out _ _ ?_ (fun hHeld => ?_); (focus ((try dsimp only); (first | done | trivial))); clear hK K; (try simp only [Act.put, List.setIfInBounds_toArray, List.set_cons_zero, List.set_cons_succ]))
  clear hb2
  (refine wpAnyS_ready (rs := [3]) (by kernel_rfl) (by simp) ?_; refine AllS.consL rfl (fun K hK => ?_) AllS.nil)
  (go_simp; go_at_call 26; refine (HIH.out W2).mono ?_; rintro e w' ⟨rfl, hk⟩; go_wp2_with fail)
  replace hm := hm.call0 hk
  (refine hK.out _ _ ?_ (fun hHeld => ?_); (focus ((try dsimp only); (first | done | trivial))); clear hK K; (try simp only [Act.put, List.setIfInBounds_toArray, List.set_cons_zero, List.set_cons_succ]))
  obtain ⟨W2, rfl⟩ : ∃ W : World, W = w' := ⟨_, rfl⟩
  clear hk
  (refine wpAnyS_takeW (i := 4) (v := ?_) rfl (by kernel_rfl) (by kernel_rfl) (by kernel_rfl) (by kernel_rfl) (fun _ _ _ h => h) (Or.inl ⟨by rfl, ?_⟩) hHeld ?_; rotate_left 1; (focus (intro w' hSw; go_simp; (try with_reducible rfl))); (try simp only [Act.put, List.setIfInBounds_toArray, List.set_cons_zero, List.set_cons_succ]))
  · rw [if_neg (by omega)]
  (refine wpAnyS_seq (by rfl) (by kernel_rfl) ?_; simp only [List.drop_succ_cons, List.drop_zero])
  clear hHeld
  go_wp2_with fail
  go_ret
  exact ⟨_, rfl, hm.bare⟩
theorem dec_told : DecTold := fun x w h1 h2 => by
  by_cases h : x < 0
  · exact decNeg_any x h h1 w
  · obtain ⟨n, rfl⟩ := Int.eq_ofNat_of_zero_le (show 0 ≤ x by omega)
    exact (decNat_any n (by omega) w).mono fun e w' h => ⟨_, h.1, h.2⟩
end Go.Proofs.YtloogjdafhjheaaDoor
