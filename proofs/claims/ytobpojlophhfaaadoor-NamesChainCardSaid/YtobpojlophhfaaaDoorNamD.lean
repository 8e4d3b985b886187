/- Walks of marref1.Pattern, names.Ignored, marref1.Ignored. -/
import Derived.Test.YtobpojlophhfaaaDoorNamA
import Derived.Test.YtobpojlophhfaaaDoorNamC
namespace Go.Mx
open Go Go.RowKit
theorem patV_ok {p : List UInt8} : ∃ a b c d, patV p = .tuple #[.string a, .bool b, .string c, .bool d, .bool (patB p)] := by
  unfold patV patB
  rw [← parts_some]
  cases partsB (trimS p) with
  | none => exact ⟨_, _, _, _, rfl⟩
  | some q => obtain ⟨f, s, b⟩ := q; exact ⟨_, _, _, _, rfl⟩
/-- Does the pattern leave out at the i-th name? -/
def hitB (p : List UInt8) (L : List (List UInt8)) (i : Nat) : Bool := takesB (trimS p) (L.getD i []) && !(decide (p.getLast? = some 47) && decide (i + 1 = L.length))
theorem out_yes {p : List UInt8} {L : List (List UInt8)} {i : Nat} (hp : patB p = true) (hi : i < L.length) (h : hitB p L i = true) : outB p L = true := by
  unfold outB
  rw [hp, Bool.true_and, List.any_eq_true]
  exact ⟨i, List.mem_range.2 hi, h⟩
theorem out_no {p : List UInt8} {L : List (List UInt8)} (h : ∀ i, i < L.length → hitB p L i = false) : outB p L = false := by
  unfold outB
  rw [Bool.and_eq_false_iff]
  right
  rw [List.any_eq_false]
  intro i hi
  rw [show (takesB (trimS p) (L.getD i []) && !(decide (p.getLast? = some 47) && decide (i + 1 = L.length))) = hitB p L i from rfl, h i (List.mem_range.1 hi)]
  simp
theorem out_bad {p : List UInt8} {L : List (List UInt8)} (h : patB p = false) : outB p L = false := by unfold outB; rw [h]; rfl
theorem ign_yes {l : List ByteArray} {s : List UInt8} {i : Nat} (hi : i < l.length) (h : outB (bL l[i]) (namesL s) = true) : ignB (l.map bL) s = true := by
  unfold ignB
  rw [List.any_eq_true]
  exact ⟨bL l[i], List.mem_map.2 ⟨_, List.getElem_mem hi, rfl⟩, h⟩
theorem ign_no {l : List ByteArray} {s : List UInt8} (h : ∀ j (hj : j < l.length), outB (bL l[j]) (namesL s) = false) : ignB (l.map bL) s = false := by
  unfold ignB
  rw [List.any_eq_false]
  intro p hp
  obtain ⟨x, hx, rfl⟩ := List.mem_map.1 hp
  obtain ⟨j, hj, rfl⟩ := List.mem_iff_getElem.1 hx
  rw [h j hj]
  simp
theorem parts_le {p f b : List UInt8} {s : Bool} (h : partsB p = some (f, s, b)) : f.length ≤ 1000 ∧ b.length ≤ 1000 := by
  have hn : nameB p = true := by
    have := parts_some p
    rw [h] at this
    cases hh : nameB p with
    | true => rfl
    | false => rw [hh] at this; cases this
  have h64 := name_le hn
  unfold partsB at h
  rw [if_pos hn] at h
  split at h
  · cases h
    exact ⟨by omega, by simp⟩
  · rename_i a b' hq
    split at h
    · cases h
    · cases h
      have h1 := pcs_le (c := 42) (l := p) (p := f) (by rw [hq]; simp)
      have h2 := pcs_le (c := 42) (l := p) (p := b) (by rw [hq]; simp)
      exact ⟨by omega, by omega⟩
  · cases h
theorem getD_at {L : List (List UInt8)} {i : Nat} (h : i < L.length) : L.getD i [] = L[i] := by simp [h]
end Go.Mx
namespace Go.Proofs.YtobpojlophhfaaaDoor
open Go.RowKit Go.Mx

theorem refPatternB_any (p : ByteArray) (w : World) (hp : p.size ≤ 100000) :
    Calls Tryd.prog 24 #[.string p] w fun e w' => e = .returned (.bool (patB (bL p))) ∧ St w w' [] [] := by
  have HP := Mx.hid (fun wx => refPattern_any p wx hp)
  obtain ⟨a, b, c, d, h⟩ := patV_ok (p := bL p)
  rw [h] at HP
  clear h
  generalize patB (bL p) = r at *
  go_enter Tryd.func24, Tryd.ntmps24
  go_wp2_with (go_at_call 58; refine (HP.out _).mono ?_; rintro e w1 ⟨rfl, hk⟩)
  go_ret
  exact ⟨rfl, hk⟩

set_option maxHeartbeats 2000000 in
theorem ignored_n (v : Value) (l : List ByteArray) (s : ByteArray) (w : World) (hv : Sl w 1 v l.length (ss l)) (hz : ∀ p ∈ l, p.size ≤ maxLen) (hs : s.size ≤ maxLen) :
    Calls Tryd.prog 21 #[v, .string s] w fun e w' => e = .returned (.bool (ignB (l.map bL) (bL s))) ∧ St w w' [] [] := by
  obtain ⟨ao, cap, blk, off, rfl, h1, h2, _, hc⟩ := hv.txt
  have HC := Mx.hid hc
  have HZ := Mx.hid (fun (i : Nat) (hi : i < l.length) => hz l[i] (List.getElem_mem hi))
  have HSP := Mx.hid (fun wx => split_n s wx hs)
  have HIY := Mx.hid (fun i (hi : i < l.length) h => ign_yes (l := l) (s := bL s) hi h)
  have HIN := Mx.hid (fun h => ign_no (l := l) (s := bL s) h)
  have HL := Mx.hid (fun p (h : p ∈ namesL (bL s)) => names_mem_le h)
  have HL8 := Mx.hid (names_le8 (bL s))
  generalize ignB (l.map bL) (bL s) = R at *
  generalize namesL (bL s) = L at *
  clear hv hc hz hs
  go_enter Tryd.func21, Tryd.ntmps21
  go_wp2_with fail
  refine (HSP.out _).mono ?_
  rintro e w1 ⟨vl, rfl, hk⟩
  obtain ⟨la, lc, rfl, l1, l2, _⟩ := id hk.sl0
  unfold maxLen at l2
  replace hk := hk.freeze
  simp only [] at hk
  go_wp2_with fail
  go_loop [16] (fun y => ∃ i : Nat, i ≤ l.length ∧ y = .int .i64 i ∧ Hid (∀ j (hj : j < l.length), j < i → outB (bL l[j]) L = false)) (fun y => l.length - (intOf y).toNat)
  case atStart => exact ⟨0, by omega, rfl, fun j hj h => by omega⟩
  case round =>
    obtain ⟨i, hi, rfl, HI⟩ := hrel
    by_cases hlt : i < l.length
    · obtain ⟨rfl, c0⟩ := HC.out i hlt
      replace c0 := hk.keep c0
      have hz := HZ.out i hlt
      have HP := Mx.hid (fun wx => pattern_n l[i] wx hz)
      have HY := Mx.hid (HIY.out i hlt)
      have HS := Mx.hid (fun (h : outB (bL l[i]) L = false) => (show ∀ j (hj : j < l.length), j < i + 1 → outB (bL l[j]) L = false from fun j hj h2 => by
        by_cases e : j = i
        · subst e; exact h
        · exact HI.out j hj (by omega)))
      cases hp : patB (bL l[i]) with
      | false =>
        rw [hp] at HP
        have HS2 := Mx.hid (HS.out (out_bad hp))
        clear hp HY HS
        generalize l[i] = p at *
        go_wp2_with (go_at_call 23; refine (HP.out _).mono ?_; rintro e w2 ⟨rfl, rfl⟩)
        go_round
        case rel => exact ⟨i + 1, by omega, by go_num, HS2⟩
        case measure => simp [intOf]; omega
      | true =>
        rw [hp] at HP
        have HOY := Mx.hid (fun k (hk : k < L.length) h => HY.out (out_yes hp hk h))
        have HON := Mx.hid (fun h => HS.out (out_no h))
        clear hp HY HS
        generalize l[i] = p at *
        have HCS := Mx.hid (fun wx => (Go.Proofs.Tryd.strings_CutSuffix p ⟨#[47]⟩ wx (by unfold maxLen at hz; omega)).mono fun e w' h => (show e = .returned (.tuple #[.string (str (trimS (bL p))), .bool (decide ((bL p).getLast? = some 47))]) ∧ wx = w' from ⟨by
          rw [h.1, show (⟨#[47]⟩ : ByteArray).data.toList = [47] from rfl, show Lib.hasSuffix p.data.toList [47] = decide ((bL p).getLast? = some 47) from lib_suf _ _, lib_trim47]; rfl, h.2.symm⟩))
        have htl : (str (trimS (bL p))).size ≤ maxLen := by
          have h1 : (bL p).length = p.size := rfl
          rw [str_size]
          unfold trimS
          split <;> simp <;> omega
        have HT := Mx.hid (fun n wx (hn : n.size ≤ maxLen) => takes_n (str (trimS (bL p))) n wx htl hn)
        rw [bL_str] at HT
        have HH := Mx.hid (fun k => (show hitB (bL p) L k = (takesB (trimS (bL p)) (L.getD k []) && !(decide ((bL p).getLast? = some 47) && decide (k + 1 = L.length))) from rfl))
        clear htl hz
        generalize trimS (bL p) = T at *
        generalize str T = t at *
        cases hd : decide ((bL p).getLast? = some 47) with
        | false =>
          rw [hd] at HCS HH
          clear hd
          go_wp2_with (first | (go_at_call 23; refine (HP.out _).mono ?_; rintro e w2 ⟨rfl, rfl⟩) | (go_at_call 56; refine (HCS.out _).mono ?_; rintro e w2 ⟨rfl, rfl⟩))
          go_loop [30] (fun y => ∃ k : Nat, k ≤ L.length ∧ y = .int .i64 k ∧ Hid (∀ j, j < k → hitB (bL p) L j = false)) (fun y => L.length - (intOf y).toNat)
          case atStart => exact ⟨0, by omega, rfl, fun j h => by omega⟩
          case round =>
            obtain ⟨k, hk2, rfl, HJ⟩ := hrel
            by_cases hlk : k < L.length
            · obtain ⟨b2, o2, rfl, c2⟩ := txt_at' hk.q0 k hlk
              have HT2 := Mx.hid (fun wx => HT.out (str L[k]) wx (by have := HL.out L[k] (List.getElem_mem hlk); rw [str_size]; unfold maxLen; omega))
              rw [bL_str] at HT2
              have HHK := Mx.hid ((HH.out k).trans (by rw [getD_at hlk]))
              generalize str L[k] = n at *
              cases ht : takesB T L[k] with
              | true =>
                rw [ht] at HT2 HHK
                have HF := Mx.hid (HOY.out k hlk HHK.out)
                clear ht
                go_wp2_with (first | ((with_reducible show wpList _ _ _ _ _ _); refine wpl_want rfl ?_) | (go_at_call 57; refine (HT2.out _).mono ?_; rintro e w2 ⟨rfl, rfl⟩))
                go_ret
                exact ⟨by rw [HF.out]; rfl, hk.noQ⟩
              | false =>
                rw [ht] at HT2 HHK
                clear ht
                go_wp2_with (first | ((with_reducible show wpList _ _ _ _ _ _); refine wpl_want rfl ?_) | (go_at_call 57; refine (HT2.out _).mono ?_; rintro e w2 ⟨rfl, rfl⟩))
                go_round
                case rel => exact ⟨k + 1, by omega, by go_num, fun j h => by
                  by_cases e : j = k
                  · subst e; exact HHK.out
                  · exact HJ.out j (by omega)⟩
                case measure => simp [intOf]; omega
            · have HF := Mx.hid (HON.out (fun j h => HJ.out j (by omega)))
              go_wp2_with fail
              go_round
              case rel => exact ⟨i + 1, by omega, by go_num, HF⟩
              case measure => simp [intOf]; omega
        | true =>
          rw [hd] at HCS HH
          clear hd
          go_wp2_with (first | (go_at_call 23; refine (HP.out _).mono ?_; rintro e w2 ⟨rfl, rfl⟩) | (go_at_call 56; refine (HCS.out _).mono ?_; rintro e w2 ⟨rfl, rfl⟩))
          go_loop [30] (fun y => ∃ k : Nat, k ≤ L.length ∧ y = .int .i64 k ∧ Hid (∀ j, j < k → hitB (bL p) L j = false)) (fun y => L.length - (intOf y).toNat)
          case atStart => exact ⟨0, by omega, rfl, fun j h => by omega⟩
          case round =>
            obtain ⟨k, hk2, rfl, HJ⟩ := hrel
            by_cases hlk : k < L.length
            · obtain ⟨b2, o2, rfl, c2⟩ := txt_at' hk.q0 k hlk
              have HT2 := Mx.hid (fun wx => HT.out (str L[k]) wx (by have := HL.out L[k] (List.getElem_mem hlk); rw [str_size]; unfold maxLen; omega))
              rw [bL_str] at HT2
              have HHK := Mx.hid ((HH.out k).trans (by rw [getD_at hlk]))
              generalize str L[k] = n at *
              cases ht : takesB T L[k] with
              | true =>
                rw [ht] at HT2 HHK
                clear ht
                have hL8 := HL8.out
                by_cases he : k + 1 = L.length
                · have HHK2 := Mx.hid (HHK.out.trans (by rw [decide_eq_true he]; first | done | rfl))
                  have q : ((k : Int) == (L.length : Int) - 1) = true := by rw [beq_iff_eq]; omega
                  have HE := Mx.hid he
                  clear he
                  go_wp2_with (first | ((with_reducible show wpList _ _ _ _ _ _); refine wpl_want rfl ?_) | (go_at_call 57; refine (HT2.out _).mono ?_; rintro e w2 ⟨rfl, rfl⟩))
                  go_round
                  case rel => exact ⟨k + 1, by omega, by go_num, fun j h => by
                    by_cases e : j = k
                    · subst e; exact HHK2.out
                    · exact HJ.out j (by omega)⟩
                  case measure => simp [intOf]; omega
                · have HF := Mx.hid (HOY.out k hlk (HHK.out.trans (by rw [decide_eq_false he]; first | done | rfl)))
                  have q : ((k : Int) == (L.length : Int) - 1) = false := by rw [beq_eq_false_iff_ne]; omega
                  clear he
                  go_wp2_with (first | ((with_reducible show wpList _ _ _ _ _ _); refine wpl_want rfl ?_) | (go_at_call 57; refine (HT2.out _).mono ?_; rintro e w2 ⟨rfl, rfl⟩))
                  go_ret
                  exact ⟨by rw [HF.out]; rfl, hk.noQ⟩
              | false =>
                rw [ht] at HT2 HHK
                clear ht
                go_wp2_with (first | ((with_reducible show wpList _ _ _ _ _ _); refine wpl_want rfl ?_) | (go_at_call 57; refine (HT2.out _).mono ?_; rintro e w2 ⟨rfl, rfl⟩))
                go_round
                case rel => exact ⟨k + 1, by omega, by go_num, fun j h => by
                  by_cases e : j = k
                  · subst e; exact HHK.out
                  · exact HJ.out j (by omega)⟩
                case measure => simp [intOf]; omega
            · have HF := Mx.hid (HON.out (fun j h => HJ.out j (by omega)))
              go_wp2_with fail
              go_round
              case rel => exact ⟨i + 1, by omega, by go_num, HF⟩
              case measure => simp [intOf]; omega
    · have HF := Mx.hid (HIN.out (fun j hj => HI.out j hj (by omega)))
      go_wp2_with fail
      go_ret
      exact ⟨by rw [HF.out]; rfl, hk.noQ⟩

set_option maxHeartbeats 2000000 in
theorem refIgnored_any (v : Value) (l : List ByteArray) (s : ByteArray) (w : World) (hv : Sl w 1 v l.length (ss l)) (hz : ∀ p ∈ l, p.size ≤ 100000) (hs : s.size ≤ maxLen) :
    Calls Tryd.prog 22 #[v, .string s] w fun e w' => e = .returned (.bool (ignB (l.map bL) (bL s))) ∧ St w w' [] [] := by
  obtain ⟨ao, cap, blk, off, rfl, h1, h2, _, hc⟩ := hv.txt
  have HC := Mx.hid hc
  have HZ := Mx.hid (fun (i : Nat) (hi : i < l.length) => hz l[i] (List.getElem_mem hi))
  have HSP := Mx.hid (fun wx => refSplit_n s wx hs)
  have HIY := Mx.hid (fun i (hi : i < l.length) h => ign_yes (l := l) (s := bL s) hi h)
  have HIN := Mx.hid (fun h => ign_no (l := l) (s := bL s) h)
  have HL := Mx.hid (fun p (h : p ∈ namesL (bL s)) => names_mem_le h)
  have HL8 := Mx.hid (names_le8 (bL s))
  generalize ignB (l.map bL) (bL s) = R at *
  generalize namesL (bL s) = L at *
  clear hv hc hz hs
  go_enter Tryd.func22, Tryd.ntmps22
  go_wp2_with fail
  refine (HSP.out _).mono ?_
  rintro e w1 ⟨vl, rfl, hk⟩
  obtain ⟨la, lc, rfl, l1, l2, _⟩ := id hk.sl0
  unfold maxLen at l2
  replace hk := hk.freeze
  simp only [] at hk
  go_wp2_with fail
  go_loopw [6] (fun y wr => ∃ i : Nat, i ≤ l.length ∧ y = .int .i64 i ∧ Hid (∀ j (hj : j < l.length), j < i → outB (bL l[j]) L = false) ∧ St w wr [] [⟨.slice la L.length lc, 1, L.length, ss (tx L)⟩]) (fun y _ => l.length - (intOf y).toNat)
  case atStart => exact ⟨0, by omega, rfl, fun j hj h => by omega, hk⟩
  case round =>
    clear hk
    obtain ⟨i, hi, rfl, HI, hk⟩ := hrel
    by_cases hlt : i < l.length
    · obtain ⟨rfl, c0⟩ := HC.out i hlt
      replace c0 := hk.keep c0
      have hz := HZ.out i hlt
      have HP := Mx.hid (fun wx => refPattern_any l[i] wx hz)
      have HY := Mx.hid (HIY.out i hlt)
      have HS := Mx.hid (fun (h : outB (bL l[i]) L = false) => (show ∀ j (hj : j < l.length), j < i + 1 → outB (bL l[j]) L = false from fun j hj h2 => by
        by_cases e : j = i
        · subst e; exact h
        · exact HI.out j hj (by omega)))
      cases hp : partsB (trimS (bL l[i])) with
      | none =>
        rw [pat_none hp] at HP
        have HS2 := Mx.hid (HS.out (by rw [out_ref]; unfold outR; rw [hp]))
        clear hp HY HS
        generalize l[i] = p at *
        go_wp2_with (first | ((with_reducible show wpList _ _ _ _ _ _); refine wpl_want rfl ?_) | (go_at_call 58; refine (HP.out _).mono ?_; rintro e w2 ⟨rfl, hkp⟩; replace hk := hk.call0 hkp; replace c0 := hkp.keep c0))
        go_loop [12] (fun y => y = .int .i64 0) (fun _ => 0)
        case atStart => rfl
        case round =>
          obtain rfl := hrel
          go_wp2_with (first | ((with_reducible show wpList _ _ _ _ _ _); refine wpl_want rfl ?_))
          go_roundw
          case rel => exact ⟨i + 1, by omega, by go_num, HS2, hk⟩
          case measure => simp [intOf]; omega
      | some q =>
        obtain ⟨f, star, b⟩ := q
        have hfb := parts_le hp
        have HTR := Mx.hid (fun n => takes_ref (n := n) hp)
        have hpb : patB (bL l[i]) = true := by unfold patB; rw [← parts_some, hp]; rfl
        rw [pat_some rfl f b star hp] at HP
        have HOY := Mx.hid (fun k (hk : k < L.length) h => HY.out (out_yes hpb hk h))
        have HON := Mx.hid (fun h => HS.out (out_no h))
        clear hp HY HS hpb
        generalize l[i] = p at *
        have HT := Mx.hid (fun n wx (hn : n.size ≤ maxLen) => refTakes_any (str f) (str b) n star wx (by rw [str_size]; exact hfb.1) (by rw [str_size]; exact hfb.2) hn)
        rw [bL_str, bL_str] at HT
        have HH := Mx.hid (fun k => (show hitB (bL p) L k = (takesB (trimS (bL p)) (L.getD k []) && !(decide ((bL p).getLast? = some 47) && decide (k + 1 = L.length))) from rfl))
        clear hfb hz
        have HSF := Mx.hid (rfl : str f = str f)
        generalize str f = sf at *
        generalize str b = sb at *
        generalize decide ((bL p).getLast? = some 47) = d at *
        go_wp2_with (first | ((with_reducible show wpList _ _ _ _ _ _); refine wpl_want rfl ?_) | (go_at_call 58; refine (HP.out _).mono ?_; rintro e w2 ⟨rfl, hkp⟩; replace hk := hk.call0 hkp; replace c0 := hkp.keep c0))
        go_loopw [12] (fun y wr => ∃ k : Nat, k ≤ L.length ∧ y = .int .i64 k ∧ Hid (∀ j, j < k → hitB (bL p) L j = false) ∧ St w wr [] [⟨.slice la L.length lc, 1, L.length, ss (tx L)⟩]) (fun y _ => L.length - (intOf y).toNat)
        case atStart => exact ⟨0, by omega, rfl, fun j h => by omega, hk⟩
        case round =>
          clear hk
          obtain ⟨k, hk2, rfl, HJ, hk⟩ := hrel
          by_cases hlk : k < L.length
          · obtain ⟨b2, o2, rfl, c2⟩ := txt_at' hk.q0 k hlk
            have HT2 := Mx.hid (fun wx => HT.out (str L[k]) wx (by have := HL.out L[k] (List.getElem_mem hlk); rw [str_size]; unfold maxLen; omega))
            rw [bL_str] at HT2
            have HHK := Mx.hid ((HH.out k).trans (by rw [getD_at hlk, HTR.out]))
            generalize str L[k] = n at *
            have hL8 := HL8.out
            cases ht : takesR f star b L[k] with
            | true =>
              rw [ht] at HT2 HHK
              clear ht
              cases d with
              | false =>
                have HF := Mx.hid (HOY.out k hlk HHK.out)
                go_wp2_with (first | ((with_reducible show wpList _ _ _ _ _ _); refine wpl_want rfl ?_) | (go_at_call 59; refine (HT2.out _).mono ?_; rintro e w3 ⟨rfl, rfl⟩))
                go_ret
                exact ⟨by rw [HF.out]; rfl, hk.noQ⟩
              | true =>
                by_cases he : k + 1 = L.length
                · have HHK2 := Mx.hid (HHK.out.trans (by rw [decide_eq_true he]; first | done | rfl))
                  have q : decide ((k : Int) < (L.length : Int) - 1) = false := decide_eq_false (by omega)
                  have HE := Mx.hid he
                  clear he
                  go_wp2_with (first | ((with_reducible show wpList _ _ _ _ _ _); refine wpl_want rfl ?_) | (go_at_call 59; refine (HT2.out _).mono ?_; rintro e w3 ⟨rfl, rfl⟩))
                  go_roundw
                  case rel => exact ⟨k + 1, by omega, by go_num, fun j h => by
                    by_cases e : j = k
                    · subst e; exact HHK2.out
                    · exact HJ.out j (by omega), hk⟩
                  case measure => simp [intOf]; omega
                · have HF := Mx.hid (HOY.out k hlk (HHK.out.trans (by rw [decide_eq_false he]; first | done | rfl)))
                  have q : decide ((k : Int) < (L.length : Int) - 1) = true := decide_eq_true (by omega)
                  clear he
                  go_wp2_with (first | ((with_reducible show wpList _ _ _ _ _ _); refine wpl_want rfl ?_) | (go_at_call 59; refine (HT2.out _).mono ?_; rintro e w3 ⟨rfl, rfl⟩))
                  go_ret
                  exact ⟨by rw [HF.out]; rfl, hk.noQ⟩
            | false =>
              rw [ht] at HT2 HHK
              clear ht
              cases d with
              | false =>
                go_wp2_with (first | ((with_reducible show wpList _ _ _ _ _ _); refine wpl_want rfl ?_) | (go_at_call 59; refine (HT2.out _).mono ?_; rintro e w3 ⟨rfl, rfl⟩))
                go_roundw
                case rel => exact ⟨k + 1, by omega, by go_num, fun j h => by
                  by_cases e : j = k
                  · subst e; exact HHK.out
                  · exact HJ.out j (by omega), hk⟩
                case measure => simp [intOf]; omega
              | true =>
                by_cases he : k + 1 = L.length
                · have q : decide ((k : Int) < (L.length : Int) - 1) = false := decide_eq_false (by omega)
                  have HE := Mx.hid he
                  clear he
                  go_wp2_with (first | ((with_reducible show wpList _ _ _ _ _ _); refine wpl_want rfl ?_) | (go_at_call 59; refine (HT2.out _).mono ?_; rintro e w3 ⟨rfl, rfl⟩))
                  go_roundw
                  case rel => exact ⟨k + 1, by omega, by go_num, fun j h => by
                    by_cases e : j = k
                    · subst e; exact HHK.out
                    · exact HJ.out j (by omega), hk⟩
                  case measure => simp [intOf]; omega
                · have q : decide ((k : Int) < (L.length : Int) - 1) = true := decide_eq_true (by omega)
                  clear he
                  go_wp2_with (first | ((with_reducible show wpList _ _ _ _ _ _); refine wpl_want rfl ?_) | (go_at_call 59; refine (HT2.out _).mono ?_; rintro e w3 ⟨rfl, rfl⟩))
                  go_roundw
                  case rel => exact ⟨k + 1, by omega, by go_num, fun j h => by
                    by_cases e : j = k
                    · subst e; exact HHK.out
                    · exact HJ.out j (by omega), hk⟩
                  case measure => simp [intOf]; omega
          · have HF := Mx.hid (HON.out (fun j h => HJ.out j (by omega)))
            go_wp2_with (first | ((with_reducible show wpList _ _ _ _ _ _); refine wpl_want rfl ?_))
            go_roundw
            case rel => exact ⟨i + 1, by omega, by go_num, HF, hk⟩
            case measure => simp [intOf]; omega
    · have HF := Mx.hid (HIN.out (fun j hj => HI.out j hj (by omega)))
      go_wp2_with fail
      go_ret
      exact ⟨by rw [HF.out]; rfl, hk.noQ⟩
end Go.Proofs.YtobpojlophhfaaaDoor
