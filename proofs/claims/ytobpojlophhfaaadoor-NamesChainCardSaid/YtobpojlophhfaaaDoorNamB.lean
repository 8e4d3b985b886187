/- Walks of names.Pattern, takes; marref1.pattern, Pattern, takes. -/
import Derived.Test.YtobpojlophhfaaaDoorNamJ
import Derived.Test.YtobpojlophhfaaaDoorNamR
namespace Go.Mx
open Go Go.RowKit
theorem u8_eqb (x : UInt8) (n : Nat) (hn : n < 256) : ((x.toNat : Int) == (n : Int)) = decide (some x = some (UInt8.ofNat n)) := by
  rw [Bool.eq_iff_iff, beq_iff_eq, decide_eq_true_iff, Option.some.injEq]
  constructor
  · intro h
    apply UInt8.toNat_inj.1
    rw [UInt8.toNat_ofNat']
    omega
  · rintro rfl
    rw [UInt8.toNat_ofNat']
    omega
/-- What the document's pattern answers. -/
def patV (p : List UInt8) : Value := match partsB (trimS p) with
  | some (f, star, b) => .tuple #[.string (str f), .bool star, .string (str b), .bool (decide (p.getLast? = some 47)), .bool true]
  | none => .tuple #[.string (str []), .bool false, .string (str []), .bool false, .bool false]
theorem star_eq {t : ByteArray} (h : 0 < t.size) : starB (bL t) = (decide ((bL t).count 42 = 0) || (decide ((bL t).count 42 = 1) && decide (1 < t.size) && (((t[0].toNat : Int) == 42) || (((t[t.size - 1]'(by omega)).toNat : Int) == 42)))) := by
  unfold starB
  rw [head_get h, last_get h]
  rw [show ((t[0].toNat : Int) == 42) = decide (some t[0] = some 42) from u8_eqb _ 42 (by omega), show (((t[t.size - 1]'(by omega)).toNat : Int) == 42) = decide (some (t[t.size - 1]'(by omega)) = some 42) from u8_eqb _ 42 (by omega)]
  rfl
end Go.Mx
namespace Go.Proofs.YtobpojlophhfaaaDoor
open Go.RowKit Go.Mx

theorem pattern_n (p : ByteArray) (w : World) (hp : p.size ≤ maxLen) :
    Calls Tryd.prog 23 #[.string p] w fun e w' => e = .returned (.bool (patB (bL p))) ∧ w = w' := by
  have HT := Mx.hid (fun wx => (Go.Proofs.Tryd.strings_TrimSuffix p ⟨#[47]⟩ wx (by unfold maxLen at hp; omega)).mono fun e w' h => (show e = .returned (.string (str (trimS (bL p)))) ∧ wx = w' from ⟨by
    rw [h.1, show (⟨#[47]⟩ : ByteArray).data.toList = [47] from rfl, lib_trim47]; rfl, h.2.symm⟩))
  have htl : (trimS (bL p)).length ≤ maxLen := by
    have h1 : (bL p).length = p.size := rfl
    unfold trimS
    split <;> simp <;> omega
  have HP : Hid (patB (bL p) = (nameB (trimS (bL p)) && starB (trimS (bL p)))) := rfl
  rw [show trimS (bL p) = bL (str (trimS (bL p))) from (bL_str _).symm] at HP
  rw [← str_size] at htl
  generalize str (trimS (bL p)) = t at *
  have HN := Mx.hid (fun wx => name_any t wx htl)
  cases hn : nameB (bL t) with
  | false =>
    rw [hn] at HN HP
    clear hn htl hp
    go_enter Tryd.func23, Tryd.ntmps23
    go_wp2_with (first | (go_at_call 60; refine (HT.out _).mono ?_; rintro e w2 ⟨rfl, rfl⟩) | (go_at_call 39; refine (HN.out _).mono ?_; rintro e w2 ⟨rfl, rfl⟩))
    go_ret
    exact ⟨by rw [HP.out]; rfl, rfl⟩
  | true =>
    have h1 : 0 < t.size := List.length_pos_iff.2 (name_ne hn)
    have h64 : t.size ≤ 64 := name_le hn
    have HC := Mx.hid (fun wx => (Go.Proofs.Tryd.strings_Count_one t 42 wx).mono fun e w' h => (show e = .returned (.int .i64 ((bL t).count 42 : Nat)) ∧ wx = w' from ⟨h.1, h.2.symm⟩))
    have HS := Mx.hid (star_eq h1)
    have hcl : (bL t).count 42 ≤ 64 := Nat.le_trans List.count_le_length h64
    rw [hn] at HN HP
    clear hn htl hp
    generalize (bL t).count 42 = c at *
    have hc : c = 0 ∨ (c = 1 ∧ ¬ 1 < t.size) ∨ (c = 1 ∧ 1 < t.size) ∨ 2 ≤ c := by omega
    rcases hc with h | ⟨h, h2⟩ | ⟨h, h2⟩ | h
    · have q1 : ((c : Int) == 0) = true := by rw [beq_iff_eq]; omega
      have HF := Mx.hid (show patB (bL p) = true by rw [HP.out, HS.out, decide_eq_true h]; rfl)
      clear h hcl
      go_enter Tryd.func23, Tryd.ntmps23
      go_wp2_with (first | ((with_reducible show wpList _ _ _ _ _ _); refine wpl_want rfl ?_) | (go_at_call 60; refine (HT.out _).mono ?_; rintro e w2 ⟨rfl, rfl⟩) | (go_at_call 39; refine (HN.out _).mono ?_; rintro e w2 ⟨rfl, rfl⟩) | (go_at_call 61; refine (HC.out _).mono ?_; rintro e w2 ⟨rfl, rfl⟩))
      go_ret
      exact ⟨by rw [HF.out]; rfl, rfl⟩
    · have q1 : ((c : Int) == 0) = false := by rw [beq_eq_false_iff_ne]; omega
      have q2 : ((c : Int) == 1) = true := by rw [beq_iff_eq]; omega
      have q3 : decide ((1 : Int) < (t.size : Int)) = false := decide_eq_false (by omega)
      have q3n : decide (1 < t.size) = false := decide_eq_false (by omega)
      have HF := Mx.hid (show patB (bL p) = false by rw [HP.out, HS.out, decide_eq_false (show ¬ c = 0 by omega), q3n, Bool.and_false]; rfl)
      clear h h2 hcl
      go_enter Tryd.func23, Tryd.ntmps23
      go_wp2_with (first | ((with_reducible show wpList _ _ _ _ _ _); refine wpl_want rfl ?_) | (go_at_call 60; refine (HT.out _).mono ?_; rintro e w2 ⟨rfl, rfl⟩) | (go_at_call 39; refine (HN.out _).mono ?_; rintro e w2 ⟨rfl, rfl⟩) | (go_at_call 61; refine (HC.out _).mono ?_; rintro e w2 ⟨rfl, rfl⟩))
      go_ret
      exact ⟨by rw [HF.out]; rfl, rfl⟩
    · have q1 : ((c : Int) == 0) = false := by rw [beq_eq_false_iff_ne]; omega
      have q2 : ((c : Int) == 1) = true := by rw [beq_iff_eq]; omega
      have q3 : decide ((1 : Int) < (t.size : Int)) = true := decide_eq_true (by omega)
      have q3n : decide (1 < t.size) = true := decide_eq_true (by omega)
      have HF := Mx.hid (show patB (bL p) = (((t[0].toNat : Int) == 42) || (((t[t.size - 1]'(by omega)).toNat : Int) == 42)) by rw [HP.out, HS.out, decide_eq_false (show ¬ c = 0 by omega), q3n, decide_eq_true h]; simp)
      cases g1 : ((t[0].toNat : Int) == 42) with
      | true =>
        rw [g1] at HF
        clear h hcl
        go_enter Tryd.func23, Tryd.ntmps23
        go_wp2_with (first | ((with_reducible show wpList _ _ _ _ _ _); refine wpl_want rfl ?_) | (go_at_call 60; refine (HT.out _).mono ?_; rintro e w2 ⟨rfl, rfl⟩) | (go_at_call 39; refine (HN.out _).mono ?_; rintro e w2 ⟨rfl, rfl⟩) | (go_at_call 61; refine (HC.out _).mono ?_; rintro e w2 ⟨rfl, rfl⟩))
        go_ret
        exact ⟨by rw [HF.out]; rfl, rfl⟩
      | false =>
        rw [g1] at HF
        clear h hcl
        have hlt : t.size - 1 < t.size := by omega
        have e1 : ((t.size : Int) - 1).toNat = t.size - 1 := by omega
        have e2 : (t.size : Int) - 1 = ((t.size - 1 : Nat) : Int) := by omega
        go_enter Tryd.func23, Tryd.ntmps23
        go_wp2_with (first | ((with_reducible show wpList _ _ _ _ _ _); refine wpl_want rfl ?_) | (go_at_call 60; refine (HT.out _).mono ?_; rintro e w2 ⟨rfl, rfl⟩) | (go_at_call 39; refine (HN.out _).mono ?_; rintro e w2 ⟨rfl, rfl⟩) | (go_at_call 61; refine (HC.out _).mono ?_; rintro e w2 ⟨rfl, rfl⟩))
        go_ret
        exact ⟨by rw [HF.out]; rfl, rfl⟩
    · have q1 : ((c : Int) == 0) = false := by rw [beq_eq_false_iff_ne]; omega
      have q2 : ((c : Int) == 1) = false := by rw [beq_eq_false_iff_ne]; omega
      have HF := Mx.hid (show patB (bL p) = false by rw [HP.out, HS.out, decide_eq_false (show ¬ c = 0 by omega), decide_eq_false (show ¬ c = 1 by omega)]; rfl)
      clear h hcl
      go_enter Tryd.func23, Tryd.ntmps23
      go_wp2_with (first | ((with_reducible show wpList _ _ _ _ _ _); refine wpl_want rfl ?_) | (go_at_call 60; refine (HT.out _).mono ?_; rintro e w2 ⟨rfl, rfl⟩) | (go_at_call 39; refine (HN.out _).mono ?_; rintro e w2 ⟨rfl, rfl⟩) | (go_at_call 61; refine (HC.out _).mono ?_; rintro e w2 ⟨rfl, rfl⟩))
      go_ret
      exact ⟨by rw [HF.out]; rfl, rfl⟩

theorem takes_n (p n : ByteArray) (w : World) (hp : p.size ≤ maxLen) (hn : n.size ≤ maxLen) :
    Calls Tryd.prog 57 #[.string p, .string n] w fun e w' => e = .returned (.bool (takesB (bL p) (bL n))) ∧ w = w' := by
  unfold maxLen at hp hn
  have HCP := Mx.hid (fun wx => (Go.Proofs.Tryd.strings_CutPrefix p ⟨#[42]⟩ wx).mono fun e w' h => (show e = .returned (.tuple #[.string (str (Lib.trimPrefix (bL p) [42])), .bool (decide ((bL p).head? = some 42))]) ∧ wx = w' from ⟨by
    rw [h.1, show (⟨#[42]⟩ : ByteArray).data.toList = [42] from rfl, show Lib.hasPrefix p.data.toList [42] = decide ((bL p).head? = some 42) from lib_pre _ _]; rfl, h.2.symm⟩))
  have HCS := Mx.hid (fun wx => (Go.Proofs.Tryd.strings_CutSuffix p ⟨#[42]⟩ wx hp).mono fun e w' h => (show e = .returned (.tuple #[.string (str (Lib.trimSuffix (bL p) [42])), .bool (decide ((bL p).getLast? = some 42))]) ∧ wx = w' from ⟨by
    rw [h.1, show (⟨#[42]⟩ : ByteArray).data.toList = [42] from rfl, show Lib.hasSuffix p.data.toList [42] = decide ((bL p).getLast? = some 42) from lib_suf _ _]; rfl, h.2.symm⟩))
  by_cases h1 : (bL p).head? = some 42
  · have HF := Mx.hid (takes_pre (n := bL n) h1)
    rw [decide_eq_true h1] at HCP
    have HX := Mx.hid (fun wx => (Go.Proofs.Tryd.strings_HasSuffix n (str (Lib.trimPrefix (bL p) [42])) wx hn).mono fun e w' h => (show e = .returned (.bool (Lib.hasSuffix (bL n) (Lib.trimPrefix (bL p) [42]))) ∧ wx = w' from ⟨by
      rw [h.1, str_data]; rfl, h.2.symm⟩))
    clear h1 hp hn
    generalize str (Lib.trimPrefix (bL p) [42]) = t at *
    generalize Lib.hasSuffix (bL n) (Lib.trimPrefix (bL p) [42]) = r at *
    go_enter Tryd.func57, Tryd.ntmps57
    go_wp2_with (first | (go_at_call 77; refine (HCP.out _).mono ?_; rintro e w2 ⟨rfl, rfl⟩) | (go_at_call 78; refine (HX.out _).mono ?_; rintro e w2 ⟨rfl, rfl⟩))
    go_ret
    exact ⟨by rw [HF.out]; rfl, rfl⟩
  · rw [decide_eq_false h1] at HCP
    by_cases h2 : (bL p).getLast? = some 42
    · have HF := Mx.hid (takes_suf (n := bL n) h1 h2)
      rw [decide_eq_true h2] at HCS
      have HX := Mx.hid (fun wx => (Go.Proofs.Tryd.strings_HasPrefix n (str (Lib.trimSuffix (bL p) [42])) wx).mono fun e w' h => (show e = .returned (.bool (Lib.hasPrefix (bL n) (Lib.trimSuffix (bL p) [42]))) ∧ wx = w' from ⟨by
        rw [h.1, str_data]; rfl, h.2.symm⟩))
      clear h1 h2 hp hn
      generalize str (Lib.trimSuffix (bL p) [42]) = t at *
      generalize Lib.hasPrefix (bL n) (Lib.trimSuffix (bL p) [42]) = r at *
      go_enter Tryd.func57, Tryd.ntmps57
      go_wp2_with (first | (go_at_call 77; refine (HCP.out _).mono ?_; rintro e w2 ⟨rfl, rfl⟩) | (go_at_call 56; refine (HCS.out _).mono ?_; rintro e w2 ⟨rfl, rfl⟩) | (go_at_call 62; refine (HX.out _).mono ?_; rintro e w2 ⟨rfl, rfl⟩))
      go_ret
      exact ⟨by rw [HF.out]; rfl, rfl⟩
    · have HF := Mx.hid ((takes_eq (n := bL n) h1 h2).trans (bare_tx p n).symm)
      rw [decide_eq_false h2] at HCS
      clear h1 h2 hp hn
      generalize hq : (p.toList == n.toList) = q at *
      go_enter Tryd.func57, Tryd.ntmps57
      go_wp2_with (first | (go_at_call 77; refine (HCP.out _).mono ?_; rintro e w2 ⟨rfl, rfl⟩) | (go_at_call 56; refine (HCS.out _).mono ?_; rintro e w2 ⟨rfl, rfl⟩))
      go_ret
      exact ⟨by rw [HF.out]; rfl, rfl⟩

theorem refTakes_any (f b n : ByteArray) (star : Bool) (w : World) (hf : f.size ≤ 1000) (hb : b.size ≤ 1000) (hn : n.size ≤ maxLen) :
    Calls Tryd.prog 59 #[.string f, .bool star, .string b, .string n] w fun e w' => e = .returned (.bool (takesR (bL f) star (bL b) (bL n))) ∧ w = w' := by
  unfold maxLen at hn
  cases star with
  | false =>
    have HF := Mx.hid (show takesR (bL f) false (bL b) (bL n) = (n.toList == f.toList) from (bare_tx n f).symm)
    go_enter Tryd.func59, Tryd.ntmps59
    go_wp2_with (first | ((with_reducible show wpList _ _ _ _ _ _); refine wpl_want rfl ?_))
    go_ret
    exact ⟨by rw [HF.out]; rfl, rfl⟩
  | true =>
    have HR : Hid (takesR (bL f) true (bL b) (bL n) = (decide ((bL f).length + (bL b).length ≤ (bL n).length) && (decide ((bL n).take (bL f).length = bL f) && decide ((bL n).drop ((bL n).length - (bL b).length) = bL b)))) := rfl
    by_cases h : f.size + b.size ≤ n.size
    · have q1 : decide ((f.size : Int) + (b.size : Int) ≤ (n.size : Int)) = true := decide_eq_true (by omega)
      have q1n : decide (f.size + b.size ≤ n.size) = true := decide_eq_true (by omega)
      have HT := Mx.hid (show (((n.extract 0 f.size).toList == f.toList) = decide ((bL n).take (bL f).length = bL f)) from by rw [bare_tx, ext_take]; rfl)
      have HU := Mx.hid (show (((n.extract (n.size - b.size) n.size).toList == b.toList) = decide ((bL n).drop ((bL n).length - (bL b).length) = bL b)) from by rw [bare_tx, ext_drop]; rfl)
      have HRL := Mx.hid (show decide ((bL f).length + (bL b).length ≤ (bL n).length) = true from decide_eq_true h)
      have e1 : ((n.size : Int) - (b.size : Int)).toNat = n.size - b.size := by omega
      have e3 : (0 : Int) ≤ (n.size : Int) - (b.size : Int) := by omega
      cases h4 : ((n.extract 0 f.size).toList == f.toList) with
      | false =>
        have HF := Mx.hid (show takesR (bL f) true (bL b) (bL n) = false by rw [HR.out, HRL.out, ← HT.out, h4]; rfl)
        go_enter Tryd.func59, Tryd.ntmps59
        go_wp2_with (first | ((with_reducible show wpList _ _ _ _ _ _); refine wpl_want rfl ?_))
        go_ret
        exact ⟨by rw [HF.out]; rfl, rfl⟩
      | true =>
        have HF := Mx.hid (show takesR (bL f) true (bL b) (bL n) = ((n.extract (n.size - b.size) n.size).toList == b.toList) by rw [HR.out, HRL.out, ← HT.out, h4, HU.out]; rfl)
        cases h5 : ((n.extract (n.size - b.size) n.size).toList == b.toList) with
        | false =>
          rw [h5] at HF
          go_enter Tryd.func59, Tryd.ntmps59
          go_wp2_with (first | ((with_reducible show wpList _ _ _ _ _ _); refine wpl_want rfl ?_))
          go_ret
          exact ⟨by rw [HF.out]; rfl, rfl⟩
        | true =>
          rw [h5] at HF
          go_enter Tryd.func59, Tryd.ntmps59
          go_wp2_with (first | ((with_reducible show wpList _ _ _ _ _ _); refine wpl_want rfl ?_))
          go_ret
          exact ⟨by rw [HF.out]; rfl, rfl⟩
    · have q1 : decide ((f.size : Int) + (b.size : Int) ≤ (n.size : Int)) = false := decide_eq_false (by omega)
      have q1n : decide (f.size + b.size ≤ n.size) = false := decide_eq_false (by omega)
      have HRL := Mx.hid (show decide ((bL f).length + (bL b).length ≤ (bL n).length) = false from decide_eq_false h)
      have HF := Mx.hid (show takesR (bL f) true (bL b) (bL n) = false by rw [HR.out, HRL.out]; rfl)
      clear h
      go_enter Tryd.func59, Tryd.ntmps59
      go_wp2_with (first | ((with_reducible show wpList _ _ _ _ _ _); refine wpl_want rfl ?_))
      go_ret
      exact ⟨by rw [HF.out]; rfl, rfl⟩
end Go.Proofs.YtobpojlophhfaaaDoor
