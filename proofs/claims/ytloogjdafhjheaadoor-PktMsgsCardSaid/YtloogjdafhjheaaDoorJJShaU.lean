/- The walk of sha.Hex. Walks of sha.Unhex and sha.Valid. -/
import Derived.Test.YtloogjdafhjheaaDoorHex
import Derived.Test.YtloogjdafhjheaaDoorShelf
namespace Go.Proofs.YtloogjdafhjheaaDoor
open Go.RowKit Go.Mx

theorem Sl.two (w : World) (x y : Value) (e : TypeId) : Sl (w.alloc (.cells #[x, y] e)) 1 (.slice (some ⟨w.heap.size, 0, none⟩) 2 2) 2 [x, y] :=
  ((St.refl w).made #[x, y] e 1 2 rfl (by simp [maxLen])).sl0

end Go.Proofs.YtloogjdafhjheaaDoor

namespace Go.Mx
open Go Go.RowKit
theorem ib_hex (c : UInt8) : Lib.indexByte digs c = hexI c := by
  have h : ∀ n : Nat, n < 256 → Lib.indexByte digs (UInt8.ofNat n) = hexI (UInt8.ofNat n) := by decide +kernel
  have := h c.toNat c.toNat_lt
  rwa [UInt8.ofNat_toNat] at this
theorem shl_or (a b : Nat) (ha : a < 16) (hb : b < 16) : bits BinOp.or IntKind.i64 ((a : Int) * 16) (b : Int) % 256 = ((16 * a + b : Nat) : Int) := by
  have h : ∀ a : Nat, a < 16 → ∀ b : Nat, b < 16 → bits BinOp.or IntKind.i64 ((a : Int) * 16) (b : Int) % 256 = ((16 * a + b : Nat) : Int) := by decide +kernel
  exact h a ha b hb
end Go.Mx
namespace Go.Proofs.YtloogjdafhjheaaDoor
open Go.RowKit Go.Mx

theorem ib_any (c : UInt8) (w : World) : Calls Tryd.prog 51 #[.string ⟨#[48, 49, 50, 51, 52, 53, 54, 55, 56, 57, 97, 98, 99, 100, 101, 102]⟩, .int .u8 (c.toNat : Int)] w fun e w' => e = .returned (.int .i64 (hexI c)) ∧ w = w' :=
  (Go.Proofs.Tryd.strings_IndexByte _ _ w).mono fun _ _ h => ⟨by
    have e := ib_hex c
    rw [h.1, Int.toNat_natCast]
    rw [← e]
    have : c.toNat.toUInt8 = c := UInt8.ofNat_toNat
    rw [this]; rfl, h.2.symm⟩

set_option maxHeartbeats 1000000 in
theorem sunhex_any (s : ByteArray) (w : World) (hl : s.size ≤ 140737488355328) :
    Calls Tryd.prog 50 #[.string s] w fun e w' => ∃ v, e = .returned (.tuple #[v, .bool (unhexL s.data.toList).isSome]) ∧ St w w' [⟨v, 5, 1, ((unhexL s.data.toList).getD []).length, bs ((unhexL s.data.toList).getD [])⟩] [] := by
  have hsz : s.data.toList.length = s.size := rfl
  have hget : ∀ i (h : i < s.size), s.data.toList[i]? = some s[i] := fun i h => List.getElem?_eq_getElem (by omega)
  generalize hL : s.data.toList = L at *
  have hP : ∀ (o : Option (List UInt8)), unhexL L = o → ∀ v w', St w w' [⟨v, 5, 1, (o.getD []).length, bs (o.getD [])⟩] [] → ∃ v', Ending.returned (.tuple #[v, .bool o.isSome]) = .returned (.tuple #[v', .bool (unhexL L).isSome]) ∧ St w w' [⟨v', 5, 1, ((unhexL L).getD []).length, bs ((unhexL L).getD [])⟩] [] := by
    rintro o rfl v w' h; exact ⟨v, rfl, h⟩
  have HP := Mx.hid hP
  have Hsz := Mx.hid hsz
  have Hget := Mx.hid hget
  clear hP hget hL
  by_cases hodd : s.size % 2 = 1
  · have HN := Mx.hid (unhexL_odd _ L rfl (by omega))
    have hb : (((s.size % 2 : Nat) : Int) != 0) = true := by rw [hodd]; rfl
    have hb' : (((s.size : Int) % 2) != 0) = true := by rw [show (s.size : Int) % 2 = ((s.size % 2 : Nat) : Int) from rfl]; exact hb
    have h2 : (s.size : Int) % 2 = 1 := by omega
    clear hsz
    go_enter Tryd.func50, Tryd.ntmps50
    go_wp2_with fail
    go_ret2
    exact HP.out none HN.out _ _ (St.nil _ _ _)
  · have h2 : (s.size : Int) % 2 = 0 := by omega
    clear hsz
    go_enter Tryd.func50, Tryd.ntmps50
    go_wp2_with fail
    clear h2
    go_loopw [4, 5] (fun x y wr => ∃ (i : Nat) (acc : List UInt8), i ≤ s.size ∧ i % 2 = 0 ∧ 2 * acc.length = i ∧ y = .int .i64 i ∧ Hid (unhexL L = (unhexL (L.drop i)).map (acc ++ ·)) ∧ St w wr [⟨x, 5, 1, acc.length, bs acc⟩] []) (fun _ y _ => s.size - (intOf y).toNat)
    case atStart => exact ⟨0, [], by omega, rfl, rfl, rfl, by simp [Hid], St.nil _ _ _⟩
    case round =>
      obtain ⟨i, acc, hi, hi2, ha, rfl, He, hs⟩ := hrel
      have hsz := Hsz.out
      by_cases hlt : i < s.size
      · have hlt1 : i + 1 < s.size := by omega
        have hst := unhexL_step (l := L) (i := i) (by omega)
        have q1 := Hget.out i hlt
        have q2 := Hget.out (i + 1) hlt1
        rw [List.getElem?_eq_getElem (by omega)] at q1 q2
        rw [Option.some.inj q1, Option.some.inj q2] at hst
        clear q1 q2
        have hii : (i : Int) < (s.size : Int) := by omega
        have hii1 : (i : Int) + 1 < (s.size : Int) := by omega
        have hii2 : ((i : Int) + 1).toNat = i + 1 := by omega
        have wi : IntKind.i64.wrap ((i : Int) + 1) = (i : Int) + 1 := IntWalk.i64_in _ (by omega)
        have hii3 : (0 : Int) ≤ (i : Int) + 1 := by omega
        have l1 := hexI_lo s[i]; have l2 := hexI_lo s[i + 1]; have g1 := hexI_hi s[i]; have g2 := hexI_hi s[i + 1]
        have Hst := Mx.hid hst
        clear hst hsz
        go_wp2_with fail
        go_quiet ((go_at_call 51; exact Calls.quiet_of_same ((ib_any _ _).mono fun _ _ h => ⟨h.1, h.2.symm⟩)))
        replace hs := hs.drewN nq
        generalize s[i] = c1 at *
        generalize s[i + 1] = c2 at *
        clear hii1 hii2 hii3 wi
        generalize hexI c1 = a at *
        generalize hexI c2 = b at *
        have hst := Hst.out
        clear Hst
        by_cases hneg : a < 0 ∨ b < 0
        · rw [if_pos hneg] at hst
          have HE := Mx.hid (show unhexL L = none by rw [He.out, hst]; rfl)
          clear hst
          have hb : decide (a < 0) = true ∨ (decide (a < 0) = false ∧ decide (b < 0) = true) := by
            by_cases h : a < 0
            · exact .inl (decide_eq_true h)
            · exact .inr ⟨decide_eq_false h, decide_eq_true (by omega)⟩
          clear hneg
          rcases hb with hb | ⟨hb, hb'⟩
          all_goals
            go_wp2_with fail
            go_ret2
            exact HP.out none HE.out _ _ (hs.bare.addNil _ _)
        · rw [if_neg hneg] at hst
          have HE := Mx.hid (He.out.trans (by rw [hst]))
          clear hst
          have hb : decide (a < 0) = false := decide_eq_false (by omega)
          have hb' : decide (b < 0) = false := decide_eq_false (by omega)
          obtain ⟨a, rfl⟩ := Int.eq_ofNat_of_zero_le (show 0 ≤ a by omega)
          obtain ⟨b, rfl⟩ := Int.eq_ofNat_of_zero_le (show 0 ≤ b by omega)
          clear hneg
          go_wp2_with (at_builtin; refine wpl_app rfl _ _ 23 rfl Tryd.elU8 (hs.alloc _) rfl (by exact (Sl.one _ _ _)) (by intro u hu; simp at hu; subst hu; rfl) (by omega) ?_; intro v1 w1 hs1 _)
          go_roundw
          case rel => exact ⟨i + 2, acc ++ [UInt8.ofNat (16 * (a : Int) + b).toNat], by omega, by omega, by simp; omega, by go_num, by show _ = _; rw [HE.out, Option.map_map]; congr 1; funext r; simp, hs1.cast (by simp) (by rw [bs_app]; congr 1; show _ = [Value.int .u8 _]; rw [show (16 * (a : Int) + b).toNat = 16 * a + b by omega, u8_nat (by omega)]; exact congrArg (fun z => [Value.int .u8 z]) (shl_or a b (by omega) (by omega)))⟩
          case measure => simp [intOf]; omega
      · have HE := Mx.hid (He.out.trans (by rw [List.drop_of_length_le (by omega)]))
        clear hsz
        go_wp2_with fail
        go_ret2
        exact HP.out (some acc) (by rw [HE.out]; simp [unhexL]) _ _ hs


theorem valid_any (s : ByteArray) (w : World) (hl : s.size ≤ 140737488355328) :
    Calls Tryd.prog 35 #[.string s] w fun e w' => e = .returned (.bool ((unhexL s.data.toList).any fun r => decide (r.length = 32))) ∧ St w w' [] [] := by
  generalize hL : s.data.toList = L at *
  have HS := Mx.hid hL
  clear hL
  go_enter Tryd.func35, Tryd.ntmps35
  go_wp2_with fail
  refine (sunhex_any s w hl).mono ?_
  rintro e w1 ⟨v, rfl, hs⟩
  rw [HS.out] at hs ⊢
  cases hu : unhexL L with
  | none =>
    rw [hu] at hs
    go_wp2_with (first | ((with_reducible show wpList _ _ _ _ _ _); refine wpl_want rfl ?_))
    go_ret
    exact ⟨by rw [hu]; rfl, hs.bare⟩
  | some r =>
    rw [hu] at hs
    have hs : St w w1 [⟨v, 5, 1, r.length, bs r⟩] [] := hs
    obtain ⟨x, y, rfl, _⟩ := hs.sl0
    by_cases h32 : r.length = 32
    · go_wp2_with (first | ((with_reducible show wpList _ _ _ _ _ _); refine wpl_want rfl ?_))
      go_ret
      exact ⟨by rw [hu, show (some r).any (fun r => decide (r.length = 32)) = decide (r.length = 32) from rfl, h32]; rfl, hs.bare⟩
    · have h33 : ¬ ((r.length : Int) = 32) := by omega
      go_wp2_with (first | ((with_reducible show wpList _ _ _ _ _ _); refine wpl_want rfl ?_))
      go_ret
      exact ⟨by rw [hu, show (some r).any (fun r => decide (r.length = 32)) = decide (r.length = 32) from rfl, decide_eq_false h32]; exact congrArg (fun b => Ending.returned (.bool b)) (by simpa using h33), hs.bare⟩
end Go.Proofs.YtloogjdafhjheaaDoor
