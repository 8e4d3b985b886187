/- Walks of marref1.Hex, digit, Unhex. -/
import Derived.Test.YtloogjdafhjheaaDoorHexP
import Derived.Test.YtloogjdafhjheaaDoorLib3
import Derived.Test.YtloogjdafhjheaaDoorBase
import Derived.IntWalk
namespace Go.Proofs.YtloogjdafhjheaaDoor
open Go.RowKit Go.Mx

theorem digit_any (c : UInt8) (w : World) : Calls Tryd.prog 58 #[.int .u8 (c.toNat : Int)] w fun e w' => e = .returned (.int .i64 (hexI c)) ∧ w = w' := by
  have hc := c.toNat_lt
  have e : ∀ i, hexI c = i → Ending.returned (.int .i64 i) = .returned (.int .i64 (hexI c)) := fun i h => by rw [h]
  have H := Mx.hid e
  clear e
  unfold hexI at H
  by_cases h1 : c.toNat < 48
  · go_enter Tryd.func58, Tryd.ntmps58
    go_wp2
    go_ret
    exact ⟨H.out _ (by rw [if_neg (by omega), if_neg (by omega)]), rfl⟩
  · by_cases h2 : c.toNat ≤ 57
    · go_enter Tryd.func58, Tryd.ntmps58
      go_wp2
      go_ret
      exact ⟨H.out _ (by rw [if_pos (by omega)]), rfl⟩
    · by_cases h3 : c.toNat < 97
      · go_enter Tryd.func58, Tryd.ntmps58
        go_wp2
        go_ret
        exact ⟨H.out _ (by rw [if_neg (by omega), if_neg (by omega)]), rfl⟩
      · by_cases h4 : c.toNat ≤ 102
        · go_enter Tryd.func58, Tryd.ntmps58
          go_wp2
          go_ret
          exact ⟨H.out _ (by rw [if_neg (by omega), if_pos (by omega)]; omega), rfl⟩
        · go_enter Tryd.func58, Tryd.ntmps58
          go_wp2
          go_ret
          exact ⟨H.out _ (by rw [if_neg (by omega), if_neg (by omega)]), rfl⟩

theorem dig_at : ∀ (k : Nat) (h : k < 16), (⟨#[48, 49, 50, 51, 52, 53, 54, 55, 56, 57, 97, 98, 99, 100, 101, 102]⟩ : ByteArray)[k]'h = dig k := by decide +kernel
theorem and15 (n : Nat) (h : n < 9223372036854775808) : bits BinOp.and IntKind.i64 (n : Int) 15 = ((n % 16 : Nat) : Int) := by
  rw [show (15 : Int) = ((15 : Nat) : Int) from rfl, i64_and _ _ h (by omega), Nat.and_two_pow_sub_one_eq_mod n 4]

set_option maxHeartbeats 1000000 in
theorem unhex_any (s : ByteArray) (w : World) (hl : s.size ≤ 140737488355328) :
    Calls Tryd.prog 49 #[.string s] w fun e w' => ∃ v, e = .returned (.tuple #[v, .bool (unhexL s.data.toList).isSome]) ∧ St w w' [⟨v, 5, 1, ((unhexL s.data.toList).getD []).length, bs ((unhexL s.data.toList).getD [])⟩] [] := by
  have hsz : s.data.toList.length = s.size := rfl
  have hget : ∀ i (h : i < s.size), s.data.toList[i]? = some s[i] := fun i h => List.getElem?_eq_getElem (by omega)
  generalize hL : s.data.toList = L at *
  have hP : ∀ (o : Option (List UInt8)), unhexL L = o → ∀ v w', St w w' [⟨v, 5, 1, (o.getD []).length, bs (o.getD [])⟩] [] → ∃ v', Ending.returned (.tuple #[v, .bool o.isSome]) = .returned (.tuple #[v', .bool (unhexL L).isSome]) ∧ St w w' [⟨v', 5, 1, ((unhexL L).getD []).length, bs ((unhexL L).getD [])⟩] [] := by
    rintro o rfl v w' h; exact ⟨v, rfl, h⟩
  have HP := Mx.hid hP
  have Hsz := Mx.hid hsz
  have Hget := Mx.hid hget
  clear hP hget hL
  by_cases hodd : s.size % 2 = 1
  · have HN := Mx.hid (unhexL_odd _ L rfl (by omega))
    have hb : (((s.size % 2 : Nat) : Int) != 0) = true := by rw [hodd]; rfl
    have hb' : (((s.size : Int) % 2) != 0) = true := by rw [show (s.size : Int) % 2 = ((s.size % 2 : Nat) : Int) from rfl]; exact hb
    have h2 : (s.size : Int) % 2 = 1 := by omega
    clear hsz
    go_enter Tryd.func49, Tryd.ntmps49
    go_wp2_with fail
    go_ret2
    exact HP.out none HN.out _ _ (St.nil _ _ _)
  · have h2 : (s.size : Int) % 2 = 0 := by omega
    clear hsz
    go_enter Tryd.func49, Tryd.ntmps49
    go_wp2_with fail
    clear h2
    go_loopw [4, 5] (fun x y wr => ∃ (i : Nat) (acc : List UInt8), i ≤ s.size ∧ i % 2 = 0 ∧ 2 * acc.length = i ∧ y = .int .i64 i ∧ Hid (unhexL L = (unhexL (L.drop i)).map (acc ++ ·)) ∧ St w wr [⟨x, 5, 1, acc.length, bs acc⟩] []) (fun _ y _ => s.size - (intOf y).toNat)
    case atStart => exact ⟨0, [], by omega, rfl, rfl, rfl, by simp [Hid], St.nil _ _ _⟩
    case round =>
      obtain ⟨i, acc, hi, hi2, ha, rfl, He, hs⟩ := hrel
      have hsz := Hsz.out
      by_cases hlt : i < s.size
      · have hlt1 : i + 1 < s.size := by omega
        have hst := unhexL_step (l := L) (i := i) (by omega)
        have q1 := Hget.out i hlt
        have q2 := Hget.out (i + 1) hlt1
        rw [List.getElem?_eq_getElem (by omega)] at q1 q2
        rw [Option.some.inj q1, Option.some.inj q2] at hst
        clear q1 q2
        have hii : (i : Int) < (s.size : Int) := by omega
        have hii1 : (i : Int) + 1 < (s.size : Int) := by omega
        have hii2 : ((i : Int) + 1).toNat = i + 1 := by omega
        have wi : IntKind.i64.wrap ((i : Int) + 1) = (i : Int) + 1 := IntWalk.i64_in _ (by omega)
        have hii3 : (0 : Int) ≤ (i : Int) + 1 := by omega
        have l1 := hexI_lo s[i]; have l2 := hexI_lo s[i + 1]; have g1 := hexI_hi s[i]; have g2 := hexI_hi s[i + 1]
        have Hst := Mx.hid hst
        clear hst hsz
        go_wp2_with fail
        go_quiet ((go_at_call 58; exact Calls.quiet_of_same ((digit_any _ _).mono fun _ _ h => ⟨h.1, h.2.symm⟩)))
        replace hs := hs.drewN nq
        generalize s[i] = c1 at *
        generalize s[i + 1] = c2 at *
        clear hii1 hii2 hii3 wi
        generalize hexI c1 = a at *
        generalize hexI c2 = b at *
        have hst := Hst.out
        clear Hst
        by_cases hneg : a < 0 ∨ b < 0
        · rw [if_pos hneg] at hst
          have HE := Mx.hid (show unhexL L = none by rw [He.out, hst]; rfl)
          clear hst
          have hb : decide (a < 0) = true ∨ (decide (a < 0) = false ∧ decide (b < 0) = true) := by
            by_cases h : a < 0
            · exact .inl (decide_eq_true h)
            · exact .inr ⟨decide_eq_false h, decide_eq_true (by omega)⟩
          clear hneg
          rcases hb with hb | ⟨hb, hb'⟩
          all_goals
            go_wp2_with fail
            go_ret2
            exact HP.out none HE.out _ _ (hs.bare.addNil _ _)
        · rw [if_neg hneg] at hst
          have HE := Mx.hid (He.out.trans (by rw [hst]))
          clear hst
          have hb : decide (a < 0) = false := decide_eq_false (by omega)
          have hb' : decide (b < 0) = false := decide_eq_false (by omega)
          obtain ⟨a, rfl⟩ := Int.eq_ofNat_of_zero_le (show 0 ≤ a by omega)
          obtain ⟨b, rfl⟩ := Int.eq_ofNat_of_zero_le (show 0 ≤ b by omega)
          clear hneg
          go_wp2_with (at_builtin; refine wpl_app rfl _ _ 23 rfl Tryd.elU8 (hs.alloc _) rfl (by exact (Sl.one _ _ _)) (by intro u hu; simp at hu; subst hu; rfl) (by omega) ?_; intro v1 w1 hs1 _)
          go_roundw
          case rel => exact ⟨i + 2, acc ++ [UInt8.ofNat (16 * (a : Int) + b).toNat], by omega, by omega, by simp; omega, by go_num, by show _ = _; rw [HE.out, Option.map_map]; congr 1; funext r; simp, hs1.cast (by simp) (by rw [bs_app]; congr 1; show _ = [Value.int .u8 _]; rw [show (16 * (a : Int) + b).toNat = 16 * a + b by omega, u8_nat (by omega)]; rfl)⟩
          case measure => simp [intOf]; omega
      · have HE := Mx.hid (He.out.trans (by rw [List.drop_of_length_le (by omega)]))
        clear hsz
        go_wp2_with fail
        go_ret2
        exact HP.out (some acc) (by rw [HE.out]; simp [unhexL]) _ _ hs

theorem u8_and15 (x : UInt8) : bits BinOp.and IntKind.u8 (x.toNat : Int) 15 = ((x.toNat % 16 : Nat) : Int) := by
  have hx := x.toNat_lt
  rw [u8_and _ 15 (by omega) (by omega) (by omega) (by omega), Int.toNat_natCast, show Int.toNat 15 = 2 ^ 4 - 1 from rfl, Nat.and_two_pow_sub_one_eq_mod]

set_option maxRecDepth 100000 in
set_option maxHeartbeats 1000000 in
theorem hex_any (v : Value) (b : List UInt8) (w : World) (hv : Sl w 1 v b.length (bs b)) (hl : b.length ≤ 70368744177664) :
    Calls Tryd.prog 46 #[v] w fun e w' => e = .returned (.string (str (hexL b))) ∧ St w w' [] [] := by
  obtain ⟨ao, cap, blk, off, rfl, h1, h2, _, hc⟩ := hv.byt
  clear hv
  have HC := Mx.hid hc
  clear hc
  go_enter Tryd.func46, Tryd.ntmps46
  go_wp2_with fail
  go_loopw [4, 5] (fun x y wr => ∃ (i : Nat) (acc : List UInt8), i ≤ b.length ∧ acc.length = 2 * i ∧ y = .int .i64 i ∧ Hid (acc = hexL (b.take i)) ∧ St w wr [⟨x, 5, 1, acc.length, bs acc⟩] []) (fun _ y _ => b.length - (intOf y).toNat)
  case atStart => exact ⟨0, [], by omega, rfl, rfl, rfl, St.nil _ _ _⟩
  case round =>
    obtain ⟨i, acc, hi, ha, rfl, He, hs⟩ := hrel
    have Ha := Mx.hid ha
    clear ha
    by_cases hlt : i < b.length
    · obtain ⟨rfl, c0⟩ := HC.out i hlt
      have hal : acc.length ≤ 140737488355326 := by have := Ha.out; omega
      have HX := Mx.hid (show hexL (b.take (i + 1)) = acc ++ [dig (b[i].toNat / 16), dig (b[i].toNat % 16)] by
        rw [List.take_succ_eq_append_getElem hlt, hexL_app, ← He.out]; rfl)
      have c1 := hs.keep c0
      have hii : (i : Int) < (b.length : Int) := by omega
      have hx := u8_lt b[i]
      obtain ⟨k1, k2, e1, e2, g1, g2, q1, q2⟩ : ∃ k1 k2 : Nat, (b[i].toNat : Int) / 16 = (k1 : Int) ∧ bits BinOp.and IntKind.u8 (b[i].toNat : Int) 15 = (k2 : Int) ∧ (k1 : Int) < 16 ∧ (k2 : Int) < 16 ∧ Hid (b[i].toNat / 16 = k1) ∧ Hid (b[i].toNat % 16 = k2) :=
        ⟨b[i].toNat / 16, b[i].toNat % 16, by omega, u8_and15 _, by omega, by omega, rfl, rfl⟩
      go_wp2_with fail
      go_region_held3 (fun W => W.cell? ⟨blk, off + i, none⟩ = some (.int .u8 (b[i].toNat : Int))) (first | exact hs1.keep c0 | go_keep) ((refine step_app rfl _ _ 23 rfl Tryd.elU8 (by exact hs.drew.alloc _) rfl (by exact ((St.refl wr.drew).made _ 5 1 2 rfl (by simp [maxLen])).sl0) (by intro u hu; simp at hu; rcases hu with rfl | rfl <;> rfl) (by omega) ?_; intro v1 w1 hs1 _))
      go_wp2_with fail
      case roundEnd => exact ⟨⟨i + 1, acc ++ [dig (b[i].toNat / 16), dig (b[i].toNat % 16)], by omega, by have := Ha.out; simp; omega, by go_num, HX.out.symm, hs1.cast (by simp) (by rw [bs_app, q1.out, q2.out, dig_at k1 (by omega), dig_at k2 (by omega)]; rfl)⟩, by simp [intOf]; omega⟩
      go_roundw
      case rel => exact ⟨i + 1, acc ++ [dig (b[i].toNat / 16), dig (b[i].toNat % 16)], by omega, by have := Ha.out; simp; omega, by go_num, HX.out.symm, hs1.cast (by simp) (by rw [bs_app, q1.out, q2.out, dig_at k1 (by omega), dig_at k2 (by omega)]; rfl)⟩
      case measure => simp [intOf]; omega
    · have HE := Mx.hid (show acc = hexL b by rw [He.out, List.take_of_length_le (by omega)])
      go_wp2_with ((with_reducible show wpList _ _ _ _ _ _); refine wpl_b2s rfl 23 9 5 _ rfl Tryd.underlying23 Tryd.underlying5 Tryd.underlying9 (by exact hs.sl0) ?_)
      go_ret
      exact ⟨by rw [HE.out]; rfl, hs.bare⟩
end Go.Proofs.YtloogjdafhjheaaDoor
