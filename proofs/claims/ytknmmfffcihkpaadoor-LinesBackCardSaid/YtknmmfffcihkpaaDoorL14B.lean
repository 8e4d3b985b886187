/- marlaw14.LinesBack: it returns true and leaves what was there as it was. -/
import Derived.Test.YtknmmfffcihkpaaDoorL14F
import Derived.Test.YtknmmfffcihkpaaDoorSplitR
import Derived.Test.YtknmmfffcihkpaaDoorLBackP
import Derived.Test.YtknmmfffcihkpaaDoorPatch
namespace Go.Proofs.YtknmmfffcihkpaaDoor
open Go.RowKit Go.Mx

set_option maxRecDepth 200000 in
set_option maxHeartbeats 8000000 in
theorem linesBack_any (w : World) (va vb : Value) (a b : List UInt8) (ha : Sl w 1 va a.length (bs a)) (hb : Sl w 1 vb b.length (bs b)) :
    Calls Tryd.prog 4 #[va, vb] w fun e w' => e = .returned (.bool true) ∧ Below w.heap.size w w' := by
  have HA := Mx.hid ha
  have HB := Mx.hid hb
  obtain ⟨ao, cap, rfl, h1, h2, h3, _⟩ := ha.form
  obtain ⟨ao', cap', rfl, h1', h2', h3', _⟩ := hb.form
  clear ha hb h3 h3'
  unfold maxLen at h2 h2'
  go_enter Tryd.func4, Tryd.ntmps4
  go_wp2_with fail
  refine (first_any _).mono ?_
  rintro e w1 ⟨rfl, hs1⟩
  by_cases hbig : 6000 < a.length ∨ 6000 < b.length
  · have hw : decide (6000 < (a.length : Int)) = true ∨ (decide (6000 < (a.length : Int)) = false ∧ decide (6000 < (b.length : Int)) = true) := by
      simp only [decide_eq_true_eq, decide_eq_false_iff_not]; omega
    clear hbig
    rcases hw with g1 | ⟨g1, g2⟩
    all_goals
      go_wp2_with (go_at_call 11; refine (first_any _).mono ?_; rintro e w2 ⟨rfl, hs2⟩)
      go_ret
      exact ⟨rfl, (hs1.call0 hs2).below⟩
  · have g1 : decide (6000 < (a.length : Int)) = false := decide_eq_false (by omega)
    have g2 : decide (6000 < (b.length : Int)) = false := decide_eq_false (by omega)
    have hal : a.length ≤ 6000 := by omega
    have hbl : b.length ≤ 6000 := by omega
    clear hbig
    go_wp2_with fail
    refine (split_any _ a _ (hs1.old HA.out) (by omega)).mono ?_
    rintro e w2 ⟨vx, rfl, hs2, hx2⟩
    replace hs2 := hs1.call0 hs2
    go_wp2_with fail
    refine (split_any _ b _ (hs2.old HB.out) (by omega)).mono ?_
    rintro e w3 ⟨vy, rfl, hs3, hy3⟩
    replace hx3 := hs3.old hx2
    replace hs3 := hs2.call0 hs3
    have hxl := lns_len a
    have hyl := lns_len b
    rw [← tx_len] at hxl hyl hx3 hy3
    have HJ : Hid (joinL (tx (lns a)) = a) := by show _ = _; rw [joinL_tx, lns_flat]
    have HF : Hid (∀ k (hk : k < (tx (lns a)).length), ∃ m : Nat, (tx (lns a))[k].size = m + 1 ∧ m ≤ 6000 ∧ (k + 1 < (tx (lns a)).length → ∀ (h : m < (tx (lns a))[k].size), (tx (lns a))[k][m] = 10) ∧
        ∀ w, Calls Tryd.prog 20 #[.string ((tx (lns a))[k].extract 0 m), .int .u8 10] w fun e w' => ∃ v', e = .returned v' ∧ St w w' [] [] ∧ ∃ xs, Sl w' 1 v' 1 xs) := fun k hk => by
      have hk' : k < (lns a).length := by rw [← tx_len]; exact hk
      obtain ⟨f1, f2, f3⟩ := lns_form a k hk'
      have hle := lns_le (List.getElem_mem hk')
      rw [tx_get hk]
      have hk2 : k + 1 < (tx (lns a)).length → (lns a)[k].getLast? = some 10 := fun h => f3 (by rw [← tx_len]; exact h)
      generalize (lns a)[k] = l at *
      obtain ⟨m, hm⟩ : ∃ m, l.length = m + 1 := ⟨l.length - 1, by have := List.length_pos_iff.2 f1; omega⟩
      have hex : (str l).extract 0 m = str l.dropLast := by
        apply ByteArray.ext
        rw [ByteArray.data_extract]
        apply Array.ext'
        simp [str, List.dropLast_eq_take, hm]
      refine ⟨m, by rw [str_size, hm], by omega, fun h hh => ?_, fun wx => ?_⟩
      · have h1 := hk2 h
        rw [List.getLast?_eq_getElem?, hm, Nat.add_sub_cancel] at h1
        have h2 : (str l)[m] = l[m]'(by omega) := by
          rw [ByteArray.getElem_eq_getElem_data]
          simp [str]
        rw [h2]
        rw [List.getElem?_eq_getElem (by omega)] at h1
        exact Option.some.inj h1
      · rw [hex]
        have := refCut_any (str l.dropLast) 10 wx (by rw [str_size, List.length_dropLast]; omega)
        rw [str_data, pcs_none f2] at this
        exact this.mono fun e w' ⟨v', he, hs⟩ => ⟨v', he, hs.bare, _, hs.sl0⟩
    clear g1 g2 hx2
    generalize tx (lns a) = X at *
    generalize tx (lns b) = Y at *
    have HX3 := Mx.hid hx3
    have HY3 := Mx.hid hy3
    have HS3 := Mx.hid hs3
    obtain ⟨xo, xcap, xblk, xoff, rfl, x1, x2, _, hcx⟩ := hx3.txt
    have HCX := Mx.hid hcx
    clear hcx hx3 hy3 hs3
    go_wp2_with fail
    go_loopw [7] (fun x wr => ∃ k : Nat, k ≤ X.length ∧ x = .int .i64 k ∧ St w3 wr [] []) (fun x _ => X.length - (intOf x).toNat)
    case atStart => exact ⟨0, by omega, rfl, St.refl _⟩
    case round =>
      obtain ⟨k, hk, rfl, hs⟩ := hrel
      by_cases hlt : k < X.length
      · obtain ⟨rfl, c1⟩ := HCX.out k hlt
        replace c1 := hs.keep c1
        obtain ⟨m, hz, hm, hlast, hcut⟩ := HF.out k hlt
        have hkk : (k : Int) < (X.length : Int) := by omega
        generalize X[k] = s at *
        have HC := Mx.hid hcut
        have hi : ((m + 1 : Nat) : Int) - 1 = (m : Int) := by omega
        have hz0 : ((m : Int) + 1 == 0) = false := by simp only [beq_eq_false_iff_ne]; omega
        clear hcut
        have hw : (decide ((k : Int) < (X.length : Int) - 1) = true ∧ ∀ (h : m < s.size), s[m] = 10) ∨ decide ((k : Int) < (X.length : Int) - 1) = false := by
          by_cases hkl : k + 1 < X.length
          · exact .inl ⟨decide_eq_true (by omega), hlast hkl⟩
          · exact .inr (decide_eq_false (by omega))
        clear hlast
        rcases hw with ⟨g1, g2⟩ | g1
        · have g3 := g2 (by omega)
          clear g2
          go_wp2_with fail
          refine (HC.out _).mono ?_
          rintro e w5 ⟨v5, rfl, hs5, xs, hx5⟩
          obtain ⟨o5, p5, rfl, _⟩ := hx5
          go_wp2_with fail
          go_roundw
          case rel => exact ⟨k + 1, by omega, by go_num, hs.call0 hs5⟩
          case measure => simp [intOf]; omega
        · go_wp2_with fail
          refine (HC.out _).mono ?_
          rintro e w5 ⟨v5, rfl, hs5, xs, hx5⟩
          obtain ⟨o5, p5, rfl, _⟩ := hx5
          go_wp2_with fail
          go_roundw
          case rel => exact ⟨k + 1, by omega, by go_num, hs.call0 hs5⟩
          case measure => simp [intOf]; omega
      · clear HF
        have hxa := hs.old HX3.out
        have hya := hs.old HY3.out
        have hsa := HS3.out.call0 hs
        clear HCX HX3 HY3 HS3 hs
        go_wp2_with fail
        refine (join_any _ X _ hxa (by omega) (by rw [HJ.out]; omega)).mono ?_
        rintro e w4 ⟨vj, rfl, hs4⟩
        rw [HJ.out] at hs4
        replace hxa := hs4.old hxa
        replace hya := hs4.old hya
        replace hs4 := hsa.call1 hs4
        have k1 := Mx.hid (bytes_any vj (.slice ao a.length cap) a a _ hs4.sl0 (hs4.old HA.out))
        rw [show decide (a = a) = true from decide_eq_true rfl] at k1
        clear hsa HJ
        go_wp2_with fail
        refine k1.out.mono ?_
        rintro e w' ⟨rfl, rfl⟩
        clear k1
        go_wp2_with fail
        refine (diff_any _ _ X Y _ hxa hya).mono ?_
        rintro e w5 ⟨v5, he, hs5, ed5⟩
        replace hxa := hs5.old hxa
        replace hya := hs5.old hya
        replace hs5 := hs4.bare.call0 hs5
        clear hs4
        by_cases hbig : 200 < X.length ∨ 200 < Y.length
        · rw [show mE X Y = 14 from if_pos hbig] at he
          subst he
          have hw : decide (200 < (X.length : Int)) = true ∨ (decide (200 < (X.length : Int)) = false ∧ decide (200 < (Y.length : Int)) = true) := by
            simp only [decide_eq_true_eq, decide_eq_false_iff_not]; omega
          clear hbig ed5
          obtain ⟨yo, ycap, rfl, _⟩ := hya
          rcases hw with g1 | ⟨g1, g2⟩
          all_goals
            go_wp2_with (first | ((with_reducible show wpList _ _ _ _ _ _); refine wpl_want rfl ?_) | (go_at_call 11; refine (first_any _).mono ?_; rintro e w2 ⟨rfl, hs2⟩))
            go_ret
            exact ⟨rfl, (hs5.call0 hs2).below⟩
        · rw [show mE X Y = 0 from if_neg hbig] at he
          rw [show dE X Y = eds Y (mpairs X Y 0 0 ++ [(X.length, Y.length)]) 0 0 from if_neg hbig] at ed5
          subst he
          have hX : X.length ≤ 200 := by omega
          have hY : Y.length ≤ 200 := by omega
          have HP := Mx.hid (dE_patch X Y)
          have hel := eds_len Y (mpairs X Y 0 0 ++ [(X.length, Y.length)]) 0 0
          have hil := eds_ins Y (mpairs X Y 0 0 ++ [(X.length, Y.length)]) 0 0
          have hnm := eds_num Y (mpairs X Y 0 0 ++ [(X.length, Y.length)]) 0 0 (mpairs_ris X Y 0 0 (Nat.zero_le _) (Nat.zero_le _))
          have hml := mpairs_len X Y 0 0
          rw [List.length_append] at hel
          simp only [List.length_singleton] at hel
          have E2 : Hid (mE X X = 0) := if_neg (by omega)
          have D2 : Hid (dE X X = []) := by
            show _ = _
            unfold dE
            rw [if_neg (by omega), dE_self]
          generalize eds Y (mpairs X Y 0 0 ++ [(X.length, Y.length)]) 0 0 = es at *
          have htot : tot es ≤ 40200 := by
            have h1 := tot_le (n := 200) fun e he => Nat.le_trans (hil e he) hY
            have h2 : es.length ≤ 201 := by omega
            have h3 := Nat.mul_le_mul_right 200 h2
            omega
          clear hbig hel hil hml
          go_wp2_with fail
          refine (patch_any _ _ X es _ hxa ed5 (by omega) (fun e he => by
            obtain ⟨n1, n2⟩ := hnm e he
            constructor <;> (simp [Lit.wf, IntKind.min, IntKind.max, IntKind.signed, IntKind.bits]; omega))).mono ?_
          rintro e w6 ⟨v6, he, hs6⟩
          rw [show pE X es = 0 by unfold pE; rw [HP.out]; rfl] at he
          rw [show pP X es = Y by unfold pP; rw [HP.out]; rfl] at hs6
          subst he
          replace hxa := hs6.old hxa
          replace hya := hs6.old hya
          replace hs6 := hs5.call1 hs6
          clear hs5 ed5 HP hnm
          go_wp2_with fail
          refine (diff_any _ _ X X _ hxa hxa).mono ?_
          rintro e w7 ⟨v7, he, hs7, ed7⟩
          rw [E2.out] at he
          rw [D2.out] at ed7
          subst he
          replace hya := hs7.old hya
          replace hs7 := hs6.call0 hs7
          clear hs6
          obtain ⟨vs7, _, hz7, _⟩ := ed7
          go_wp2_with fail
          refine (first_any _).mono ?_
          rintro e w8 ⟨rfl, hs8⟩
          replace hya := hs8.old hya
          replace hz7 := hs8.old hz7
          replace hs8 := hs7.call0 hs8
          have hq := hs8.sl0
          obtain ⟨o7, p7, rfl, _⟩ := hz7
          go_wp2_with (first | ((with_reducible show wpList _ _ _ _ _ _); refine wpl_want rfl ?_))
          refine (texts_same _ _ Y Y _ hq hya rfl).mono ?_
          rintro e w9 ⟨rfl, hs9⟩
          go_wp2_with (first | ((with_reducible show wpList _ _ _ _ _ _); refine wpl_want rfl ?_))
          go_ret
          exact ⟨rfl, (hs8.call0 hs9).below⟩

theorem linesBackRow (va : Value) (a : List UInt8) {w : World} (ha : Sl w 1 va a.length (bs a)) (vb : Value) (b : List UInt8) (hb : Sl w 1 vb b.length (bs b)) (_w : World) :
    Calls Tryd.prog 4 #[va, vb] w fun e w' => e = .returned (.bool true) ∧ Below w.heap.size w w' := linesBack_any w va vb a b ha hb
end Go.Proofs.YtknmmfffcihkpaaDoor
