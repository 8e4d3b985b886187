/- Walk of the hasher's Sum. -/
import Derived.Test.YtlfdnlomlbbicaaGreatDoorJ20ShaV
namespace Go.Mx
open Go Go.RowKit
theorem w_b24 (x : U32) : ((x.toNat : Int) / (16777216 : Int)) % (256 : Int) = ((UInt8.ofNat (x >>> 24).toNat).toNat : Int) := by
  rw [← w_low, ← w_shr]; rfl
theorem w_b16 (x : U32) : ((x.toNat : Int) / (65536 : Int)) % (256 : Int) = ((UInt8.ofNat (x >>> 16).toNat).toNat : Int) := by
  rw [← w_low, ← w_shr]; rfl
theorem w_b8 (x : U32) : ((x.toNat : Int) / (256 : Int)) % (256 : Int) = ((UInt8.ofNat (x >>> 8).toNat).toNat : Int) := by
  rw [← w_low, ← w_shr]; rfl
theorem padH_test (n m : Nat) (h1 : 1 ≤ m) (h : m ≤ padZ n + 1) : (n + m) % 64 = 56 ↔ m = padZ n + 1 := by
  unfold padZ at h ⊢; omega
theorem padH_snoc {m : Nat} (h1 : 1 ≤ m) : bs (0x80 :: List.replicate (m - 1) 0) ++ [Value.int .u8 0] = bs (0x80 :: List.replicate (m + 1 - 1) 0) := by
  obtain ⟨k, rfl⟩ : ∃ k, m = k + 1 := ⟨m - 1, by omega⟩
  simp only [Nat.add_sub_cancel, List.replicate_succ']
  rw [← List.cons_append, bs_app]
  rfl
theorem be8_snoc (n : Nat) {i : Nat} (hi : i < 8) : bs (padH n ++ (be8 (8 * n)).take i) ++ [Value.int .u8 ((8 * n : Nat) / 2 ^ (56 - 8 * i) % 256 : Int)] = bs (padH n ++ (be8 (8 * n)).take (i + 1)) := by
  have hl : i < (be8 (8 * n)).length := by rw [be8_len]; exact hi
  rw [List.take_succ_eq_append_getElem hl, ← List.append_assoc, bs_app (padH n ++ (be8 (8 * n)).take i)]
  congr 1
  simp only [be8, List.getElem_map, List.getElem_range, bs_cons, bs_nil]
  rw [UInt8.toNat_ofNat']
  congr 2
theorem w4_cells (x : U32) : [Value.int .u8 ((x.toNat : Int) / 16777216), Value.int .u8 ((x.toNat : Int) / 65536 % 256), Value.int .u8 ((x.toNat : Int) / 256 % 256), Value.int .u8 ((x.toNat : Int) % 256)] = bs (w4 x) := by
  have h := w_b24 x
  have hx := x.isLt
  rw [show ((x.toNat : Int) / (16777216 : Int)) % (256 : Int) = (x.toNat : Int) / (16777216 : Int) by omega] at h
  simp only [w4, bs_cons, bs_nil]
  rw [h, w_b16, w_b8, w_low]
theorem outW_snoc (t : S8) {i : Nat} (hi : i < 8) : bs (outW (t.lst.take i)) ++ bs (w4 (t.lst.getD i 0)) = bs (outW (t.lst.take (i + 1))) := by
  have hl : i < t.lst.length := by rw [S8.lst_len]; exact hi
  rw [List.take_succ_eq_append_getElem hl, ← bs_app, List.getD_eq_getElem?_getD, List.getElem?_eq_getElem hl]
  congr 1
  unfold outW
  rw [List.map_append, List.flatten_append]
  simp
theorem Sl.four (w : World) (x y z t : Value) (e : TypeId) : Sl (w.alloc (.cells #[x, y, z, t] e)) 1 (.slice (some ⟨w.heap.size, 0, none⟩) 4 4) 4 [x, y, z, t] :=
  ((St.refl w).made #[x, y, z, t] e 1 4 rfl (by simp [maxLen])).sl0
theorem padZ_le (n : Nat) : padZ n < 64 := by unfold padZ; omega
theorem pad_eq (n : Nat) : pad n = padH n ++ be8 (8 * n) := rfl
end Go.Mx
namespace Go.Proofs.YtlfdnlomlbbicaaGreatDoor
open Go.RowKit Go.Mx

theorem ix8 (t : S8) : ∀ i : Nat, i < 8 → ∀ w', (Instr.index 96 (.agg (u32s t.lst).toArray) (.int .i64 (i : Int))).run Tryz.prog w' = .ok (.int .u32 ((t.lst.getD i 0).toNat : Int)) w' := fun i hi w' => by
  have h : i = 0 ∨ i = 1 ∨ i = 2 ∨ i = 3 ∨ i = 4 ∨ i = 5 ∨ i = 6 ∨ i = 7 := by omega
  rcases h with rfl | rfl | rfl | rfl | rfl | rfl | rfl | rfl <;> (show Sem.run _ _ _ = _; kernel_rfl)

def HSumPost (w0 : World) (R : List Row) (Q : List Rd) (g gc : Nat) (s : S8) (vr : Value) (n : Nat) (r : List UInt8) (e : Ending) (w' : World) : Prop :=
  ∃ v, e = .returned v ∧ St w0 w' (⟨v, 5, 1, 32, bs (outW (eatS s (r ++ pad n)).lst)⟩ :: hrow g gc s vr n :: R) (⟨vr, 1, r.length, bs r⟩ :: Q)

set_option maxRecDepth 100000 in
set_option maxHeartbeats 4000000 in
theorem hsum_any (w0 w : World) (R : List Row) (Q : List Rd) (g gc : Nat) (s : S8) (vr : Value) (n : Nat) (r : List UInt8) (hs : St w0 w (hrow g gc s vr n :: R) (⟨vr, 1, r.length, bs r⟩ :: Q)) (hq : cq gc ∈ Q) (hrl : r.length ≤ 4096) (hn : n ≤ 140737488351232) :
    Calls Tryz.prog 38 #[.pointer (some ⟨g, 0, none⟩)] w (HSumPost w0 R Q g gc s vr n r) := by
  go_enter Tryz.func38, Tryz.ntmps38
  go_wp2_with fail
  refine (copy_any w0 w R Q g gc s vr n r hs hrl).mono ?_
  rintro e w1 ⟨g', v2, rfl, hs1⟩
  have cn : w1.cell? ⟨g, 10, none⟩ = some (.int .i64 (n : Int)) := hs1.rcell (List.mem_cons_of_mem _ (List.mem_cons_self ..)) rfl
  have hs2 := hs1.made #[.int .u8 128] 5 1 1 rfl (by simp [maxLen])
  have HS2 := Mx.hid hs2
  have HQ := Mx.hid hq
  clear hs hs1 hs2 hq
  have hz := padZ_le n
  have HT := Mx.hid (padH_test n)
  go_wp2_with fail
  clear cn
  go_loopw [5] (fun v wr => ∃ m : Nat, 1 ≤ m ∧ m ≤ padZ n + 1 ∧ St w0 wr (⟨v, 5, 1, m, bs (0x80 :: List.replicate (m - 1) 0)⟩ :: hrow g' gc s v2 n :: hrow g gc s vr n :: R) (⟨v2, 1, r.length, bs r⟩ :: ⟨vr, 1, r.length, bs r⟩ :: Q)) (fun v _ => padZ n + 1 - lenV v)
  case atStart => exact ⟨1, by omega, by omega, HS2.out⟩
  case round =>
    obtain ⟨m, hm1, hm2, hs⟩ := hrel
    have cn : wr.cell? ⟨g, 10, none⟩ = some (.int .i64 (n : Int)) := hs.rcell (List.mem_cons_of_mem _ (List.mem_cons_of_mem _ (List.mem_cons_self ..))) rfl
    obtain ⟨ao, ac, rfl, _⟩ := id hs.sl0
    by_cases hme : m = padZ n + 1
    · have b1 : (((n : Int) + (m : Int)) % 64 != 56) = false := by
        rw [bne_eq_false_iff_eq]; have := (HT.out m hm1 hm2).2 hme; omega
      have hs9 := hs.cast (n' := m + 0) (xs' := bs (padH n ++ (be8 (8 * n)).take 0)) rfl (by rw [List.take_zero, List.append_nil, hme]; rfl)
      have HS9 := Mx.hid hs9
      have HME := Mx.hid hme
      clear hs hs9 hme
      go_wp2_with fail
      clear b1
      go_loopw [5, 31] (fun v y wr => ∃ i : Nat, i ≤ 8 ∧ y = .int .i64 i ∧ St w0 wr (⟨v, 5, 1, m + i, bs (padH n ++ (be8 (8 * n)).take i)⟩ :: hrow g' gc s v2 n :: hrow g gc s vr n :: R) (⟨v2, 1, r.length, bs r⟩ :: ⟨vr, 1, r.length, bs r⟩ :: Q)) (fun _ y _ => 8 - (intOf y).toNat)
      case atStart => exact ⟨0, by omega, rfl, HS9.out⟩
      case round =>
        obtain ⟨i, hi, rfl, hs⟩ := hrel
        by_cases hlt : i < 8
        · have HB8 := Mx.hid (be8_snoc n hlt)
          have h : i = 0 ∨ i = 1 ∨ i = 2 ∨ i = 3 ∨ i = 4 ∨ i = 5 ∨ i = 6 ∨ i = 7 := by omega
          clear hi hlt HT HS2 HS9
          rcases h with rfl | rfl | rfl | rfl | rfl | rfl | rfl | rfl
          · go_wp2_with (at_builtin; refine wpl_app rfl _ _ 25 rfl Tryz.elU8 (hs.alloc _) rfl (by exact Sl.one _ _ _) (by intro u hu; simp at hu; subst hu; rfl) (by omega) ?_; intro v5 w5 hs5 _)
            go_roundw
            case rel => exact ⟨0 + 1, by omega, by rfl, hs5.cast rfl (by rw [← HB8.out]; refine congrArg (fun z : Int => bs (padH n ++ (be8 (8 * n)).take 0) ++ [Value.int .u8 z]) ?_; simp only [Nat.reduceMul, Nat.reduceSub, Int.reducePow]; omega)⟩
            case measure => simp [intOf]
          · go_wp2_with (at_builtin; refine wpl_app rfl _ _ 25 rfl Tryz.elU8 (hs.alloc _) rfl (by exact Sl.one _ _ _) (by intro u hu; simp at hu; subst hu; rfl) (by omega) ?_; intro v5 w5 hs5 _)
            go_roundw
            case rel => exact ⟨1 + 1, by omega, by rfl, hs5.cast rfl (by rw [← HB8.out]; refine congrArg (fun z : Int => bs (padH n ++ (be8 (8 * n)).take 1) ++ [Value.int .u8 z]) ?_; simp only [Nat.reduceMul, Nat.reduceSub, Int.reducePow]; omega)⟩
            case measure => simp [intOf]
          · go_wp2_with (at_builtin; refine wpl_app rfl _ _ 25 rfl Tryz.elU8 (hs.alloc _) rfl (by exact Sl.one _ _ _) (by intro u hu; simp at hu; subst hu; rfl) (by omega) ?_; intro v5 w5 hs5 _)
            go_roundw
            case rel => exact ⟨2 + 1, by omega, by rfl, hs5.cast rfl (by rw [← HB8.out]; refine congrArg (fun z : Int => bs (padH n ++ (be8 (8 * n)).take 2) ++ [Value.int .u8 z]) ?_; simp only [Nat.reduceMul, Nat.reduceSub, Int.reducePow]; omega)⟩
            case measure => simp [intOf]
          · go_wp2_with (at_builtin; refine wpl_app rfl _ _ 25 rfl Tryz.elU8 (hs.alloc _) rfl (by exact Sl.one _ _ _) (by intro u hu; simp at hu; subst hu; rfl) (by omega) ?_; intro v5 w5 hs5 _)
            go_roundw
            case rel => exact ⟨3 + 1, by omega, by rfl, hs5.cast rfl (by rw [← HB8.out]; refine congrArg (fun z : Int => bs (padH n ++ (be8 (8 * n)).take 3) ++ [Value.int .u8 z]) ?_; simp only [Nat.reduceMul, Nat.reduceSub, Int.reducePow]; omega)⟩
            case measure => simp [intOf]
          · go_wp2_with (at_builtin; refine wpl_app rfl _ _ 25 rfl Tryz.elU8 (hs.alloc _) rfl (by exact Sl.one _ _ _) (by intro u hu; simp at hu; subst hu; rfl) (by omega) ?_; intro v5 w5 hs5 _)
            go_roundw
            case rel => exact ⟨4 + 1, by omega, by rfl, hs5.cast rfl (by rw [← HB8.out]; refine congrArg (fun z : Int => bs (padH n ++ (be8 (8 * n)).take 4) ++ [Value.int .u8 z]) ?_; simp only [Nat.reduceMul, Nat.reduceSub, Int.reducePow]; omega)⟩
            case measure => simp [intOf]
          · go_wp2_with (at_builtin; refine wpl_app rfl _ _ 25 rfl Tryz.elU8 (hs.alloc _) rfl (by exact Sl.one _ _ _) (by intro u hu; simp at hu; subst hu; rfl) (by omega) ?_; intro v5 w5 hs5 _)
            go_roundw
            case rel => exact ⟨5 + 1, by omega, by rfl, hs5.cast rfl (by rw [← HB8.out]; refine congrArg (fun z : Int => bs (padH n ++ (be8 (8 * n)).take 5) ++ [Value.int .u8 z]) ?_; simp only [Nat.reduceMul, Nat.reduceSub, Int.reducePow]; omega)⟩
            case measure => simp [intOf]
          · go_wp2_with (at_builtin; refine wpl_app rfl _ _ 25 rfl Tryz.elU8 (hs.alloc _) rfl (by exact Sl.one _ _ _) (by intro u hu; simp at hu; subst hu; rfl) (by omega) ?_; intro v5 w5 hs5 _)
            go_roundw
            case rel => exact ⟨6 + 1, by omega, by rfl, hs5.cast rfl (by rw [← HB8.out]; refine congrArg (fun z : Int => bs (padH n ++ (be8 (8 * n)).take 6) ++ [Value.int .u8 z]) ?_; simp only [Nat.reduceMul, Nat.reduceSub, Int.reducePow]; omega)⟩
            case measure => simp [intOf]
          · go_wp2_with (at_builtin; refine wpl_app rfl _ _ 25 rfl Tryz.elU8 (hs.alloc _) rfl (by exact Sl.one _ _ _) (by intro u hu; simp at hu; subst hu; rfl) (by omega) ?_; intro v5 w5 hs5 _)
            go_roundw
            case rel => exact ⟨7 + 1, by omega, by rfl, hs5.cast rfl (by rw [← HB8.out]; refine congrArg (fun z : Int => bs (padH n ++ (be8 (8 * n)).take 7) ++ [Value.int .u8 z]) ?_; simp only [Nat.reduceMul, Nat.reduceSub, Int.reducePow]; omega)⟩
            case measure => simp [intOf]
        · obtain rfl : i = 8 := by omega
          have hpl : m + 8 = (pad n).length := by rw [HME.out]; simp only [pad, List.length_cons, List.length_append, List.length_replicate, be8_len]
          have hsC := hs.cast hpl (xs' := bs (pad n)) (by rw [List.take_of_length_le (by rw [be8_len]; omega), pad_eq])
          obtain ⟨vo, vc, rfl, _⟩ := id hsC.sl0
          have hs9 := hsC.freeze
          have hs10 : St w0 wr (hrow g' gc s v2 n :: hrow g gc s vr n :: R) (⟨v2, 1, r.length, bs r⟩ :: ⟨.slice vo (pad n).length vc, 1, (pad n).length, bs (pad n)⟩ :: ⟨vr, 1, r.length, bs r⟩ :: Q) := hs9.sub (List.Sublist.refl _) (fun q hq => by
            simp only [List.mem_cons] at hq ⊢
            rcases hq with h | h | h | h
            · exact .inr (.inl h)
            · exact .inl h
            · exact .inr (.inr (.inl h))
            · exact .inr (.inr (.inr h)))
          have hple : (pad n).length ≤ 100 := by rw [← hpl]; omega
          clear hs hsC hs9 hpl HT HS2 HS9 hlt hi hm1 hm2 cn
          go_wp2_with fail
          refine (write_any w0 wr (hrow g gc s vr n :: R) _ g' gc s v2 (.slice vo (pad n).length vc) n r (pad n) hs10 (List.mem_cons_of_mem _ (List.mem_cons_of_mem _ HQ.out)) (List.mem_cons_self ..) hrl (by omega) hn).mono ?_
          rintro e w5 ⟨v5, rfl, hs11⟩
          have HPost : Hid (outW (eatS s (r ++ pad n)).lst = outW (eatS s (r ++ pad n)).lst) := rfl
          generalize hT : eatS s (r ++ pad n) = t at *
          have HTT := Mx.hid hT
          clear hT hs10 HPost
          have HLt := Mx.hid (show (u32s t.lst).length = 8 from rfl)
          have HCt := Mx.hid (hs11.rcells (ys := [.pointer (some ⟨gc, 0, none⟩)]) (cs := u32s t.lst) (zs := [v5, .int .i64 ((n + (pad n).length : Nat) : Int)]) (j := 1) (List.mem_cons_self ..) rfl rfl)
          have hs12 := hs11.addNil 5 1
          have HIX := Mx.hid (ix8 t)
          go_wp2_with ((with_reducible show wpList _ _ _ _ _ _); refine wpl_loadA rfl 96 _ rfl Tryz.a8 (g') (1) rfl (u32s t.lst) HLt.out HCt.out ?_)
          clear hs11
          have hs13 : St w0 w5 (⟨.slice none 0 0, 5, 1, 4 * 0, bs (outW (t.lst.take 0))⟩ :: hrow g' gc t v5 ((n + (pad n).length : Nat) : Int) :: hrow g gc s vr n :: R) (⟨v5, 1, (eatR (r ++ pad n)).length, bs (eatR (r ++ pad n))⟩ :: ⟨.slice vo (pad n).length vc, 1, (pad n).length, bs (pad n)⟩ :: ⟨vr, 1, r.length, bs r⟩ :: Q) := hs12
          generalize ((n + (pad n).length : Nat) : Int) = nn at *
          generalize eatR (r ++ pad n) = er at *
          clear hs12 hple
          generalize (pad n).length = pl at *
          go_loopw [7, 51] (fun v y wr => ∃ i : Nat, i ≤ 8 ∧ y = .int .i64 i ∧ St w0 wr (⟨v, 5, 1, 4 * i, bs (outW (t.lst.take i))⟩ :: hrow g' gc t v5 nn :: hrow g gc s vr n :: R) (⟨v5, 1, er.length, bs er⟩ :: ⟨.slice vo pl vc, 1, pl, bs (pad n)⟩ :: ⟨vr, 1, r.length, bs r⟩ :: Q)) (fun _ y _ => 8 - (intOf y).toNat)
          case atStart => exact ⟨0, by omega, rfl, hs13⟩
          case round =>
            clear hs13
            obtain ⟨i, hi, rfl, hs⟩ := hrel
            by_cases hlt : i < 8
            · have hii : (i : Int) < 8 := by omega
              have hx := HIX.out i hlt
              have HSN := Mx.hid (outW_snoc t hlt)
              generalize t.lst.getD i 0 = x at *
              go_wp2_with (at_builtin; refine wpl_app rfl _ _ 25 rfl Tryz.elU8 (hs.alloc _) rfl (by exact Sl.four _ _ _ _ _ _) (by intro u hu; simp at hu; rcases hu with rfl | rfl | rfl | rfl <;> rfl) (by omega) ?_; intro v6 w6 hs6 _)
              go_roundw
              case rel => exact ⟨i + 1, by omega, by go_num, hs6.cast (by omega) (by rw [← HSN.out, ← w4_cells])⟩
              case measure => simp [intOf]; omega
            · obtain rfl : i = 8 := by omega
              have hsR := hs.cast (n' := 32) (xs' := bs (outW t.lst)) rfl (by rw [List.take_of_length_le (by rw [S8.lst_len]; omega)])
              go_wp2_with fail
              go_ret
              unfold HSumPost
              rw [HTT.out]
              refine ⟨_, rfl, ?_⟩
              exact hsR.swap.tail.sub (List.Sublist.refl _) fun q hq => List.mem_cons_of_mem _ (List.mem_cons_of_mem _ hq)
    · have b1 : (((n : Int) + (m : Int)) % 64 != 56) = true := by
        rw [bne_iff_ne]; have := mt (HT.out m hm1 hm2).1 hme; omega
      have HME := Mx.hid hme
      clear hme
      go_wp2_with (at_builtin; refine wpl_app rfl _ _ 25 rfl Tryz.elU8 (hs.alloc _) rfl (by exact Sl.one _ _ _) (by intro u hu; simp at hu; subst hu; rfl) (by omega) ?_; intro v5 w5 hs5 _)
      go_roundw
      case rel => exact ⟨m + 1, by omega, by have := HME.out; omega, hs5.cast rfl (padH_snoc hm1)⟩
      case measure => rw [hs5.sl0.lenV]; simp only [lenV]; have := HME.out; omega
end Go.Proofs.YtlfdnlomlbbicaaGreatDoor
