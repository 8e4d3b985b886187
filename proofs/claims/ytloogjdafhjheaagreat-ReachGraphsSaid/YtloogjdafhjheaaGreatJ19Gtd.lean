/- Walk of slices' stableCmpFunc for at most 40 strings. Walk of slices.SortStableFunc; of reach.Graph's comparing closure. -/
import Derived.Test.YtloogjdafhjheaaGreatGtc
import Derived.Test.YtloogjdafhjheaaGreatMapM
import Derived.Test.YtloogjdafhjheaaGreatJ5RVal
namespace Go.Mx
open Go Go.RowKit
/-- Blocks of twenty, risen up to place A. -/
def Blk (f : ByteArray → Int) (l : List ByteArray) (A : Nat) : Prop := A = 0 ∨ (A = 20 ∧ Rise f l 0 20) ∨ (A = 40 ∧ Rise f l 0 20 ∧ Rise f l 20 40)
theorem blk_next {f : ByteArray → Int} {l l' : List ByteArray} {A : Nat} (h : Blk f l A) (hA : A ≤ 20) (hm : Mov f l l' A (A + 20)) (hr : Rise f l' A (A + 20)) : Blk f l' (A + 20) := by
  rcases h with rfl | ⟨rfl, h1⟩ | ⟨rfl, h1, h2⟩
  · exact .inr (.inl ⟨rfl, hr⟩)
  · exact .inr (.inr ⟨rfl, hm.rise h1 (.inl (Nat.le_refl _)), hr⟩)
  · omega
/-- Behind the blocks: 20 or fewer are sorted; else two blocks are. -/
def Two (f : ByteArray → Int) (l : List ByteArray) (N : Nat) : Prop := (N ≤ 20 ∧ Rise f l 0 N) ∨ (20 < N ∧ Rise f l 0 20 ∧ Rise f l 20 N)
theorem blk_two {f : ByteArray → Int} {l l' : List ByteArray} {A N : Nat} (h : Blk f l A) (hA : A ≤ N) (hB : N < A + 20) (h40 : N ≤ 40) (hm : Mov f l l' A N) (hr : Rise f l' A N) : Two f l' N := by
  rcases h with rfl | ⟨rfl, h1⟩ | ⟨rfl, h1, h2⟩
  · exact .inl ⟨by omega, hr⟩
  · by_cases hN : N = 20
    · subst hN; exact .inl ⟨by omega, hm.rise h1 (.inl (Nat.le_refl _))⟩
    · exact .inr ⟨by omega, hm.rise h1 (.inl (Nat.le_refl _)), hr⟩
  · obtain rfl : N = 40 := by omega
    exact .inr ⟨by omega, hm.rise h1 (.inl (by omega)), hm.rise h2 (.inl (Nat.le_refl _))⟩
end Go.Mx
namespace Go.Proofs.YtloogjdafhjheaaGreat
open Go.RowKit Go.Mx

set_option maxRecDepth 100000 in
set_option maxHeartbeats 2000000 in
theorem stable_any (w0 w : World) (g N cap gp : Nat) (Q : List Rd) (f : ByteArray → Int) (hc : CmpOK w0 gp f) (l : List ByteArray) (hs : St w0 w [srow g N cap l] Q) (hN : l.length = N) (h40 : N ≤ 40) :
    Calls Tryz.prog 48 #[.slice (some ⟨g, 0, none⟩) N cap, .int .i64 N, .func (Fn.func 27) #[] #[.pointer (some ⟨gp, 0, none⟩)]] w (MovPost w0 g N cap Q f l 0 N) := by
  have HN := Mx.hid hN
  have HC := Mx.hid hc
  clear hN hc
  go_enter Tryz.func48, Tryz.ntmps48
  go_wp2_with fail
  go_loopw [7, 8] (fun x y wr => ∃ (A B : Nat) (l' : List ByteArray), A ≤ N ∧ Hid (B = A + 20) ∧ x = .int .i64 A ∧ y = .int .i64 B ∧ Hid (Mov f l l' 0 N) ∧ Hid (Blk f l' A) ∧ St w0 wr [srow g N cap l'] Q) (fun x _ _ => 60 - (intOf x).toNat)
  case atStart => exact ⟨0, 20, l, by omega, Mx.hid rfl, rfl, rfl, Mx.hid (Mov.refl f l 0 N), Mx.hid (.inl rfl), hs⟩
  case round =>
    clear hs
    obtain ⟨A, B, l', hAN, HB, rfl, rfl, HM, HK, hs⟩ := hrel
    have HL := Mx.hid (HM.out.len.trans HN.out)
    by_cases hBN : B ≤ N
    · have hA20 : A ≤ 20 := by have := HB.out; omega
      have hBi : B ≤ 40 := by omega
      go_wp2_with fail
      refine (insSort_any w0 _ g N cap gp Q f l' A B HC.out hs HL.out (by have := HB.out; omega) hBN (by omega)).mono ?_
      rintro e w2 ⟨l2, rfl, hs2, hmv, hrz⟩
      have HM2 := Mx.hid (HM.out.trans hmv (Nat.zero_le _) hBN)
      have HK2 := Mx.hid (show Blk f l2 B by have h9 := HB.out; subst h9; exact blk_next HK.out hA20 hmv hrz)
      clear hmv hrz
      go_wp2_with fail
      have hab := HB.out
      refine ⟨⟨B, B + 20, l2, hBN, Mx.hid rfl, rfl, by go_num, HM2, HK2, hs2⟩, by simp [intOf]; omega⟩
    · go_wp2_with fail
      refine (insSort_any w0 _ g N cap gp Q f l' A N HC.out hs HL.out hAN (Nat.le_refl _) (by omega)).mono ?_
      rintro e w2 ⟨l2, rfl, hs2, hmv, hrz⟩
      have HM2 := Mx.hid (HM.out.trans hmv (Nat.zero_le _) (Nat.le_refl _))
      have HT2 := Mx.hid (blk_two HK.out hAN (by have := HB.out; omega) h40 hmv hrz)
      clear hmv hrz hs hAN hBN
      go_wp2_with fail
      go_loopw [6, 7, 8, 9] (fun s _ _ _ wr => ∃ (z : Nat) (l' : List ByteArray), s = .int .i64 z ∧ z ≤ 40 ∧ Hid ((z = 20 ∧ Two f l' N) ∨ (z = 40 ∧ Rise f l' 0 N)) ∧ Hid (Mov f l l' 0 N) ∧ St w0 wr [srow g N cap l'] Q) (fun s _ _ _ _ => 60 - (intOf s).toNat)
      case atStart => exact ⟨20, l2, rfl, by omega, Mx.hid (.inl ⟨rfl, HT2.out⟩), HM2, hs2⟩
      case round =>
        clear hs2 HT2 HM2 HK HL HM HB
        obtain ⟨z, l3, rfl, hz, HZ, HM, hs⟩ := hrel
        have HL := Mx.hid (HM.out.len.trans HN.out)
        by_cases hzN : z < N
        · have HR := Mx.hid (show z = 20 ∧ Rise f l3 0 20 ∧ Rise f l3 20 N by
            rcases HZ.out with ⟨h1, ⟨h2, h3⟩ | ⟨h2, h3, h4⟩⟩ | ⟨h1, _⟩
            · omega
            · exact ⟨h1, h3, h4⟩
            · omega)
          have hz20 := HR.out.1
          subst hz20
          clear HZ
          go_wp2_with fail
          go_loopw [7, 8] (fun x y wr => ∃ (A B : Nat) (l4 : List ByteArray), x = .int .i64 A ∧ y = .int .i64 B ∧ A ≤ 40 ∧ B ≤ 80 ∧ Hid ((A = 0 ∧ B = 40 ∧ Rise f l4 0 20 ∧ Rise f l4 20 N) ∨ (A = 40 ∧ B = 80 ∧ N = 40 ∧ Rise f l4 0 N)) ∧ Hid (Mov f l l4 0 N) ∧ St w0 wr [srow g N cap l4] Q) (fun x _ _ => 60 - (intOf x).toNat)
          case atStart => exact ⟨0, 40, l3, rfl, rfl, by omega, by omega, Mx.hid (.inl ⟨rfl, rfl, HR.out.2⟩), HM, hs⟩
          case round =>
            clear hs HM HL HR
            obtain ⟨A, B, l4, rfl, rfl, hA, hB, HX, HM, hs⟩ := hrel
            have HL := Mx.hid (HM.out.len.trans HN.out)
            rcases HX.out with ⟨rfl, rfl, r1, r2⟩ | ⟨rfl, rfl, hN40, r3⟩
            · have HR1 := Mx.hid r1
              have HR2 := Mx.hid r2
              clear r1 r2 HX
              by_cases h4 : 40 ≤ N
              · have HN4 := Mx.hid (show N = 40 by omega)
                go_wp2_with fail
                refine (sym_any w0 g N cap gp Q f HC.out (by omega) 40 _ l4 0 20 40 (by omega) hs HL.out (by omega) (by omega) h4 HR1.out (by have := HR2.out; rwa [HN4.out] at this)).mono ?_
                rintro e w5 ⟨l5, rfl, hs5, hmv, hrz⟩
                have HM5 := Mx.hid (HM.out.trans hmv (Nat.le_refl _) h4)
                have HZ5 := Mx.hid (show Rise f l5 0 N by rw [HN4.out]; exact hrz)
                clear hmv hrz
                go_wp2_with fail
                exact ⟨⟨40, 80, l5, by go_num, by go_num, by omega, by omega, Mx.hid (.inr ⟨rfl, rfl, HN4.out, HZ5.out⟩), HM5, hs5⟩, by simp [intOf]⟩
              · go_wp2_with fail
                refine (sym_any w0 g N cap gp Q f HC.out (by omega) 40 _ l4 0 20 N (by omega) hs HL.out (by omega) hzN (Nat.le_refl _) HR1.out HR2.out).mono ?_
                rintro e w5 ⟨l5, rfl, hs5, hmv, hrz⟩
                have HM5 := Mx.hid (HM.out.trans hmv (Nat.le_refl _) (Nat.le_refl _))
                have HZ5 := Mx.hid hrz
                clear hmv hrz
                go_wp2_with fail
                exact ⟨⟨40, l5, by go_num, by omega, Mx.hid (.inr ⟨rfl, HZ5.out⟩), HM5, hs5⟩, by simp [intOf]⟩
            · subst hN40
              have HZ5 := Mx.hid r3
              clear r3 HX
              go_wp2_with fail
              exact ⟨⟨40, l4, by go_num, by omega, Mx.hid (.inr ⟨rfl, HZ5.out⟩), HM, hs⟩, by simp [intOf]⟩
        · have HF := Mx.hid (show Rise f l3 0 N by
            rcases HZ.out with ⟨h1, ⟨h2, h3⟩ | ⟨h2, h3, h4⟩⟩ | ⟨h1, h2⟩
            · exact h3
            · omega
            · exact h2)
          go_wp2_with fail
          go_end0
          exact ⟨l3, rfl, hs, HM.out, HF.out⟩
end Go.Proofs.YtloogjdafhjheaaGreat

namespace Go.Mx
open Go Go.RowKit
/-- An empty object. -/
def obZ : Value := .agg #[.int .i64 0, .slice none 0 0, .slice none 0 0, .string ByteArray.empty, .slice none 0 0, .int .i64 0, .int .i64 0, .string ByteArray.empty]
/-- A map of objects tells stamps. -/
def Stm (E : List Ent) (F : ByteArray → Int) : Prop := ∀ k, ∃ a0 a1 a2 a3 a4 a6 a7, (mget E k).getD obZ = .agg #[a0, a1, a2, a3, a4, .int .i64 (F k), a6, a7]
end Go.Mx
namespace Go.Proofs.YtloogjdafhjheaaGreat
open Go.RowKit Go.Mx

theorem Tryz.zeroOb : ∀ w : World, (zeroValue 56).run Tryz.prog w = .ok obZ w := fun _ => by kernel_rfl
theorem Tryz.fldOS (a0 a1 a2 a3 a4 a6 a7 : Value) (y : Int) (w : World) : (Instr.field 56 (.agg #[a0, a1, a2, a3, a4, .int .i64 y, a6, a7]) 5).run Tryz.prog w = .ok (.int .i64 y) w := by kernel_rfl
theorem Tryz.fldOP (a0 a1 a2 a3 a4 a5 a6 a7 : Value) (w : World) : (Instr.field 56 (.agg #[a0, a1, a2, a3, a4, a5, a6, a7]) 4).run Tryz.prog w = .ok a4 w := by kernel_rfl
set_option maxRecDepth 200000 in
theorem cmp_r (gp B : Nat) (E : List Ent) (F : ByteArray → Int) (a b : ByteArray) (w : World) (h : Mp w B E) (hE : Stm E F) (c : w.cell? ⟨gp, 0, none⟩ = some (.map (some B))) (hb : ∀ k, 0 ≤ F k ∧ F k ≤ 9223372036854775807) :
    Calls Tryz.prog 27 #[.string a, .string b, .pointer (some ⟨gp, 0, none⟩)] w fun e w' => e = .returned (.int .i64 (F a - F b)) ∧ St w w' [] [] := by
  obtain ⟨p0, p1, p2, p3, p4, p6, p7, ha⟩ := hE a
  obtain ⟨q0, q1, q2, q3, q4, q6, q7, hbb⟩ := hE b
  obtain ⟨a1, a2⟩ := hb a
  obtain ⟨b1, b2⟩ := hb b
  have HLA := Mx.hid (fun wx (hs : St w wx [] []) => (show (Instr.lookup 63 (.map (some B)) (.string a) false).run Tryz.prog wx = .ok (.agg #[p0, p1, p2, p3, p4, .int .i64 (F a), p6, p7]) wx by rw [← ha]; exact run_look Tryz.underlying63 Tryz.underlying9 Tryz.zeroOb (h.grow hs.below) a false))
  have HLB := Mx.hid (fun wx (hs : St w wx [] []) => (show (Instr.lookup 63 (.map (some B)) (.string b) false).run Tryz.prog wx = .ok (.agg #[q0, q1, q2, q3, q4, .int .i64 (F b), q6, q7]) wx by rw [← hbb]; exact run_look Tryz.underlying63 Tryz.underlying9 Tryz.zeroOb (h.grow hs.below) b false))
  generalize F a = sa at *
  generalize F b = sb at *
  have hw : IntKind.i64.wrap (sa - sb) = sa - sb := IntWalk.i64_in _ (by omega)
  have kf := Tryz.fldOS
  have hs := St.refl w
  clear h ha hbb hb hE
  go_enter Tryz.func27, Tryz.ntmps27
  have y3 := HLA.out _ hs
  have y4 := HLB.out _ hs
  go_wp2_with fail
  go_ret
  exact ⟨rfl, hs⟩
set_option maxRecDepth 200000 in
theorem sortStable_any (w0 w : World) (g N cap gp : Nat) (Q : List Rd) (f : ByteArray → Int) (hc : CmpOK w0 gp f) (l : List ByteArray) (hs : St w0 w [srow g N cap l] Q) (hN : l.length = N) (h40 : N ≤ 40) :
    Calls Tryz.prog 26 #[.slice (some ⟨g, 0, none⟩) N cap, .func (Fn.func 27) #[] #[.pointer (some ⟨gp, 0, none⟩)]] w (MovPost w0 g N cap Q f l 0 N) := by
  have HS := Mx.hid (stable_any w0 w g N cap gp Q f hc l hs hN h40)
  clear hc hs hN
  go_enter Tryz.func26, Tryz.ntmps26
  go_wp2_with fail
  refine HS.out.mono ?_
  rintro e w2 ⟨l2, rfl, hs2, hmv, hrz⟩
  have HM := Mx.hid (And.intro hmv hrz)
  clear hmv hrz
  go_wp2_with fail
  go_end0
  exact ⟨l2, rfl, hs2, HM.out.1, HM.out.2⟩
end Go.Proofs.YtloogjdafhjheaaGreat
