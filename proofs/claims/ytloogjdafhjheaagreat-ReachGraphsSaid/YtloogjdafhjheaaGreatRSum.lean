/- Walk of the document's Sum. -/
import Derived.Test.YtloogjdafhjheaaGreatJ3Held
import Derived.Deep.Light
namespace Go.Mx
open Go Go.RowKit
theorem word_cellsM {M : List UInt8} {p : Nat} (hp : p + 64 ≤ M.length) {l : List U32} {i j : Nat} (hi : i < 16) (hj : j = p + 4 * i) {w : World} {q : Prop} {blk off : Nat} (HC : ∀ k (hk : k < M.length), q ∧ w.cell? ⟨blk, off + k, none⟩ = some (.int .u8 (M[k].toNat : Int))) :
    q ∧ ∃ x0 x1 x2 x3 : U32, w.cell? ⟨blk, off + j, none⟩ = some (.int .u8 (x0.toNat : Int)) ∧ w.cell? ⟨blk, off + (j + 1), none⟩ = some (.int .u8 (x1.toNat : Int)) ∧ w.cell? ⟨blk, off + (j + 2), none⟩ = some (.int .u8 (x2.toNat : Int)) ∧ w.cell? ⟨blk, off + (j + 3), none⟩ = some (.int .u8 (x3.toNat : Int)) ∧
      nextW ((M.drop p).take 64) l i = (((x0 <<< 24) ||| (x1 <<< 16)) ||| (x2 <<< 8)) ||| x3 := by
  have h0 : j < M.length := by omega
  have h1 : j + 1 < M.length := by omega
  have h2 : j + 2 < M.length := by omega
  have h3 : j + 3 < M.length := by omega
  have hg : ∀ k, 4 * i + k < 64 → ∀ h : j + k < M.length, ((M.drop p).take 64).getD (4 * i + k) 0 = M[j + k] := fun k hk h => by
    rw [List.getD_eq_getElem?_getD, List.getElem?_take, if_pos hk, List.getElem?_drop, show p + (4 * i + k) = j + k by omega, List.getElem?_eq_getElem h]; rfl
  refine ⟨(HC j h0).1, by32 M[j], by32 M[j + 1], by32 M[j + 2], by32 M[j + 3], ?_, ?_, ?_, ?_, ?_⟩
  · rw [(HC j h0).2, w_byte]
  · rw [(HC _ h1).2, w_byte]
  · rw [(HC _ h2).2, w_byte]
  · rw [(HC _ h3).2, w_byte]
  · unfold nextW word
    rw [if_pos hi, hg 1 (by omega) h1, hg 2 (by omega) h2, hg 3 (by omega) h3]
    have := hg 0 (by omega) h0
    simp only [Nat.add_zero] at this
    rw [this]
/-- A word laid over the i-th. -/
theorem lay_over {l W : List U32} {i : Nat} (hl : l.length = i) (_hW : W.length = 64) (hi : i < 64) (x : U32) :
    (u32s (l ++ W.drop i)).take i ++ [Value.int .u32 (x.toNat : Int)] ++ (u32s (l ++ W.drop i)).drop (i + 1) = u32s ((l ++ [x]) ++ W.drop (i + 1)) := by
  subst hl
  rw [u32s_app, List.take_append_of_le_length (by rw [u32s_len]; omega), List.take_of_length_le (by rw [u32s_len]; omega), List.drop_append, u32s_len, List.drop_eq_nil_of_le (by rw [u32s_len]; omega), u32s_app, u32s_app, show l.length + 1 - l.length = 1 by omega]
  simp [u32s, List.map_drop, List.drop_drop]
theorem mixL_cell' (s t : S8) {i : Nat} (hi : i < 8) : (u32s (mixL s t i))[i]? = some (.int .u32 ((s.lst.getD i 0).toNat : Int)) := by
  have := mixL_cell s t [] hi
  rwa [List.append_nil] at this
theorem mixL_set' (s t : S8) {i : Nat} (hi : i < 8) : (u32s (mixL s t i)).take i ++ [Value.int .u32 ((s.lst.getD i 0 + t.lst.getD i 0).toNat : Int)] ++ (u32s (mixL s t i)).drop (i + 1) = u32s (mixL s t (i + 1)) := by
  have h : i = 0 ∨ i = 1 ∨ i = 2 ∨ i = 3 ∨ i = 4 ∨ i = 5 ∨ i = 6 ∨ i = 7 := by omega
  rcases h with rfl | rfl | rfl | rfl | rfl | rfl | rfl | rfl <;> rfl
theorem w_sum5 (h x ch kk ww : U32) : (((h.toNat : Int) + (x.toNat : Int) + (ch.toNat : Int) + (kk.toNat : Int)) % 4294967296 + (ww.toNat : Int)) % 4294967296 = (((((h + x) + ch) + kk) + ww : U32).toNat : Int) := by
  simp only [BitVec.toNat_add]; omega
theorem w_sum3 (a b c : U32) : ((a.toNat : Int) + (b.toNat : Int) + (c.toNat : Int)) % 4294967296 = (((a + b) + c : U32).toNat : Int) := by
  simp only [BitVec.toNat_add]; omega
theorem w4_cellsW (x : U32) : [Value.int .u8 (IntKind.u8.wrap ((x.toNat : Int) / 16777216)), Value.int .u8 (IntKind.u8.wrap ((x.toNat : Int) / 65536)), Value.int .u8 (IntKind.u8.wrap ((x.toNat : Int) / 256)), Value.int .u8 (IntKind.u8.wrap (x.toNat : Int))] = bs (w4 x) := by
  rw [← w4_cells]
  have hx := x.isLt
  show [Value.int .u8 ((x.toNat : Int) / 16777216 % 256), _, _, _] = _
  rw [show (x.toNat : Int) / 16777216 % 256 = (x.toNat : Int) / 16777216 by omega]
  rfl
theorem be8_last (l : List UInt8) (n : Nat) {i : Nat} (hi : i < 8) : bs (l ++ (be8 n).take i) ++ [Value.int .u8 (((n / 2 ^ (56 - 8 * i) : Nat) : Int) % 256)] = bs (l ++ (be8 n).take (i + 1)) := by
  have hl : i < (be8 n).length := by rw [be8_len]; exact hi
  rw [List.take_succ_eq_append_getElem hl, ← List.append_assoc, bs_app (l ++ (be8 n).take i)]
  congr 1
  simp only [be8, List.getElem_map, List.getElem_range, bs_cons, bs_nil]
  rw [UInt8.toNat_ofNat']
  congr 2
end Go.Mx
namespace Go.Proofs.YtloogjdafhjheaaGreat
open Go.RowKit Go.Mx

abbrev rwr (g : Nat) (l : List Value) : Row := ⟨.slice (some ⟨g, 0, none⟩) 64 64, 112, 1, 64, l⟩
abbrev rhr (g : Nat) (l : List Value) : Row := ⟨.slice (some ⟨g, 0, none⟩) 8 8, 112, 1, 8, l⟩
abbrev rkd (g : Nat) : Rd := ⟨.slice (some ⟨g, 0, none⟩) 64 64, 1, 64, u32s K64⟩


set_option maxRecDepth 100000 in
set_option maxHeartbeats 40000000 in
theorem rsum_any (v : Value) (l : List UInt8) (w : World) (hv : Sl w 1 v l.length (bs l)) (hl : l.length ≤ 140737488351232) :
    Calls Tryz.prog 43 #[v] w fun e w' => ∃ v', e = .returned v' ∧ St w w' [⟨v', 5, 1, 32, bs (sha l)⟩] [] := by
  have HV := Mx.hid hv
  obtain ⟨bo, bc, rfl, _⟩ := id hv
  clear hv
  obtain ⟨Z, HZ, HMK⟩ : ∃ Z : List U32, Hid (Z.length = 64) ∧ Hid (∀ w : World, (Instr.makeSlice 110 (.int .i64 64) (.int .i64 64)).run Tryz.prog w = .ok (.slice (some ⟨w.heap.size, 0, none⟩) 64 64) (w.alloc (.cells (u32s Z).toArray 112))) :=
    ⟨List.replicate 64 0, Mx.hid (by simp), Mx.hid (fun _ => by kernel_rfl)⟩
  go_enter Tryz.func43, Tryz.ntmps43
  go_wp2_with fail
  refine (consts_any w).mono ?_
  rintro e w1 ⟨rfl, hk1⟩
  have hs1 := hk1.freeze
  clear hk1
  go_wp2_with fail
  have hs2 := hs1.madeAt (u32s I8.lst).toArray 112 1 8 w1.heap.size rfl (by simp [maxLen]) rfl
  refine (copyBytes_any _ l _ (hs2.old HV.out) (by omega)).mono ?_
  rintro e w2 ⟨vm, rfl, hk2⟩
  have hs3 := hs2.call1 hk2
  clear hk2 hs2 hs1
  generalize w1.heap.size = gh at *
  generalize w.heap.size = gk at *
  have hs3' : St w w2 [⟨vm, 5, 1, l.length, bs l⟩, rhr gh (u32s I8.lst)] [rkd gk] := hs3
  clear hs3
  go_wp2_with (at_builtin; refine wpl_app rfl _ _ 51 rfl Tryz.elU8 (hs3'.alloc _) rfl (by exact Sl.one _ _ _) (by intro u hu; simp at hu; subst hu; rfl) (by omega) ?_; intro v5 w5 hs5 _)
  clear hs3'
  have hz := padZ_le l.length
  have HT := Mx.hid (padH_test l.length)
  have hs6 : St w w5 [⟨v5, 5, 1, l.length + 1, bs (l ++ 0x80 :: List.replicate (1 - 1) 0)⟩, rhr gh (u32s I8.lst)] [rkd gk] := hs5.cast rfl (by rw [bs_app]; rfl)
  clear hs5
  have HS6 := Mx.hid hs6
  clear hs6
  go_loopw [5] (fun v wr => ∃ q m : Nat, Hid (q = l.length + m) ∧ 1 ≤ m ∧ m ≤ padZ l.length + 1 ∧ q ≤ 140737488351332 ∧ St w wr [⟨v, 5, 1, q, bs (l ++ 0x80 :: List.replicate (m - 1) 0)⟩, rhr gh (u32s I8.lst)] [rkd gk]) (fun v _ => padZ l.length + 1 + l.length - lenV v)
  case atStart => exact ⟨l.length + 1, 1, rfl, by omega, by omega, by omega, HS6.out⟩
  case round =>
    obtain ⟨q, m, Hq, hm1, hm2, hq, hs⟩ := hrel
    obtain ⟨ao, ac, rfl, _⟩ := id hs.sl0
    by_cases hme : m = padZ l.length + 1
    · have b1 : ((q : Int) % 64 != 56) = false := by
        rw [bne_eq_false_iff_eq]; have := (HT.out m hm1 hm2).2 hme; have := Hq.out; omega
      have HQM := Mx.hid (show q % 64 = 56 by have := (HT.out m hm1 hm2).2 hme; have := Hq.out; omega)
      have hs9 : St w wr [⟨.slice ao q ac, 5, 1, q + 0, bs (l ++ padH l.length ++ (be8 (8 * l.length)).take 0)⟩, rhr gh (u32s I8.lst)] [rkd gk] := hs.cast rfl (by rw [List.take_zero, List.append_nil, hme]; rfl)
      have HS9 := Mx.hid hs9
      have HME := Mx.hid hme
      clear hs hs9 hme hm2 hz HT HS6
      go_wp2_with fail
      clear b1
      go_loopw [5, 7] (fun v y wr => ∃ i : Nat, i ≤ 8 ∧ y = .int .i64 (7 - (i : Int)) ∧ St w wr [⟨v, 5, 1, q + i, bs (l ++ padH l.length ++ (be8 (8 * l.length)).take i)⟩, rhr gh (u32s I8.lst)] [rkd gk]) (fun _ y _ => (intOf y + 1).toNat)
      case atStart => exact ⟨0, by omega, rfl, HS9.out⟩
      case round =>
        obtain ⟨i, hi, rfl, hs⟩ := hrel
        by_cases hlt : i < 8
        · have HB8 := Mx.hid (be8_last (l ++ padH l.length) (8 * l.length) hlt)
          have h : i = 0 ∨ i = 1 ∨ i = 2 ∨ i = 3 ∨ i = 4 ∨ i = 5 ∨ i = 6 ∨ i = 7 := by omega
          clear hi hlt HS9
          rcases h with rfl | rfl | rfl | rfl | rfl | rfl | rfl | rfl
          · go_light
            as_aux_lemma =>
              go_wp2_with (at_builtin; refine wpl_app rfl _ _ 51 rfl Tryz.elU8 (hs.alloc _) rfl (by exact Sl.one _ _ _) (by intro u hu; simp at hu; subst hu; rfl) (by omega) ?_; intro v5 w5 hs5 _)
              go_roundw
              case rel => exact ⟨0 + 1, by omega, by rfl, hs5.cast rfl (by rw [← HB8.out]; refine congrArg (fun z : Int => bs (l ++ padH l.length ++ (be8 (8 * l.length)).take 0) ++ [Value.int .u8 z]) ?_; simp only [Nat.reduceMul, Nat.reduceSub, Nat.reducePow]; omega)⟩
              case measure => simp [intOf]
          · go_light
            as_aux_lemma =>
              go_wp2_with (at_builtin; refine wpl_app rfl _ _ 51 rfl Tryz.elU8 (hs.alloc _) rfl (by exact Sl.one _ _ _) (by intro u hu; simp at hu; subst hu; rfl) (by omega) ?_; intro v5 w5 hs5 _)
              go_roundw
              case rel => exact ⟨1 + 1, by omega, by rfl, hs5.cast rfl (by rw [← HB8.out]; refine congrArg (fun z : Int => bs (l ++ padH l.length ++ (be8 (8 * l.length)).take 1) ++ [Value.int .u8 z]) ?_; simp only [Nat.reduceMul, Nat.reduceSub, Nat.reducePow]; omega)⟩
              case measure => simp [intOf]
          · go_light
            as_aux_lemma =>
              go_wp2_with (at_builtin; refine wpl_app rfl _ _ 51 rfl Tryz.elU8 (hs.alloc _) rfl (by exact Sl.one _ _ _) (by intro u hu; simp at hu; subst hu; rfl) (by omega) ?_; intro v5 w5 hs5 _)
              go_roundw
              case rel => exact ⟨2 + 1, by omega, by rfl, hs5.cast rfl (by rw [← HB8.out]; refine congrArg (fun z : Int => bs (l ++ padH l.length ++ (be8 (8 * l.length)).take 2) ++ [Value.int .u8 z]) ?_; simp only [Nat.reduceMul, Nat.reduceSub, Nat.reducePow]; omega)⟩
              case measure => simp [intOf]
          · go_light
            as_aux_lemma =>
              go_wp2_with (at_builtin; refine wpl_app rfl _ _ 51 rfl Tryz.elU8 (hs.alloc _) rfl (by exact Sl.one _ _ _) (by intro u hu; simp at hu; subst hu; rfl) (by omega) ?_; intro v5 w5 hs5 _)
              go_roundw
              case rel => exact ⟨3 + 1, by omega, by rfl, hs5.cast rfl (by rw [← HB8.out]; refine congrArg (fun z : Int => bs (l ++ padH l.length ++ (be8 (8 * l.length)).take 3) ++ [Value.int .u8 z]) ?_; simp only [Nat.reduceMul, Nat.reduceSub, Nat.reducePow]; omega)⟩
              case measure => simp [intOf]
          · go_light
            as_aux_lemma =>
              go_wp2_with (at_builtin; refine wpl_app rfl _ _ 51 rfl Tryz.elU8 (hs.alloc _) rfl (by exact Sl.one _ _ _) (by intro u hu; simp at hu; subst hu; rfl) (by omega) ?_; intro v5 w5 hs5 _)
              go_roundw
              case rel => exact ⟨4 + 1, by omega, by rfl, hs5.cast rfl (by rw [← HB8.out]; refine congrArg (fun z : Int => bs (l ++ padH l.length ++ (be8 (8 * l.length)).take 4) ++ [Value.int .u8 z]) ?_; simp only [Nat.reduceMul, Nat.reduceSub, Nat.reducePow]; omega)⟩
              case measure => simp [intOf]
          · go_light
            as_aux_lemma =>
              go_wp2_with (at_builtin; refine wpl_app rfl _ _ 51 rfl Tryz.elU8 (hs.alloc _) rfl (by exact Sl.one _ _ _) (by intro u hu; simp at hu; subst hu; rfl) (by omega) ?_; intro v5 w5 hs5 _)
              go_roundw
              case rel => exact ⟨5 + 1, by omega, by rfl, hs5.cast rfl (by rw [← HB8.out]; refine congrArg (fun z : Int => bs (l ++ padH l.length ++ (be8 (8 * l.length)).take 5) ++ [Value.int .u8 z]) ?_; simp only [Nat.reduceMul, Nat.reduceSub, Nat.reducePow]; omega)⟩
              case measure => simp [intOf]
          · go_light
            as_aux_lemma =>
              go_wp2_with (at_builtin; refine wpl_app rfl _ _ 51 rfl Tryz.elU8 (hs.alloc _) rfl (by exact Sl.one _ _ _) (by intro u hu; simp at hu; subst hu; rfl) (by omega) ?_; intro v5 w5 hs5 _)
              go_roundw
              case rel => exact ⟨6 + 1, by omega, by rfl, hs5.cast rfl (by rw [← HB8.out]; refine congrArg (fun z : Int => bs (l ++ padH l.length ++ (be8 (8 * l.length)).take 6) ++ [Value.int .u8 z]) ?_; simp only [Nat.reduceMul, Nat.reduceSub, Nat.reducePow]; omega)⟩
              case measure => simp [intOf]
          · go_light
            as_aux_lemma =>
              go_wp2_with (at_builtin; refine wpl_app rfl _ _ 51 rfl Tryz.elU8 (hs.alloc _) rfl (by exact Sl.one _ _ _) (by intro u hu; simp at hu; subst hu; rfl) (by omega) ?_; intro v5 w5 hs5 _)
              go_roundw
              case rel => exact ⟨7 + 1, by omega, by rfl, hs5.cast rfl (by rw [← HB8.out]; refine congrArg (fun z : Int => bs (l ++ padH l.length ++ (be8 (8 * l.length)).take 7) ++ [Value.int .u8 z]) ?_; simp only [Nat.reduceMul, Nat.reduceSub, Nat.reducePow]; omega)⟩
              case measure => simp [intOf]
        · obtain rfl : i = 8 := by omega
          obtain ⟨M, HM⟩ : ∃ M, Hid (M = l ++ pad l.length) := ⟨_, rfl⟩
          obtain ⟨L, HL⟩ : ∃ L, Hid (L = q + 8) := ⟨_, rfl⟩
          have HML := Mx.hid (show M.length = L by rw [HM.out, HL.out, Hq.out, HME.out, pad_eq]; simp only [padH, List.length_cons, List.length_append, List.length_replicate, be8_len]; omega)
          have hL64 : L % 64 = 0 := by have := HL.out; have := HQM.out; omega
          have hLb : L ≤ 140737488351432 := by have := HL.out; omega
          have hL0 : L ≠ 0 := by have := HL.out; omega
          have hsM : St w wr [⟨_, 5, 1, L, bs M⟩, rhr gh (u32s I8.lst)] [rkd gk] := hs.cast HL.out.symm (by rw [HM.out, pad_eq, List.take_of_length_le (by rw [be8_len]; omega), List.append_assoc])
          obtain ⟨gm, mc, rfl, _, _, hmc, hmc2⟩ := hsM.form0 hL0
          have hsN := hsM.freeze
          have HCM : Hid (∀ (w' : World) (R : List Row), St w w' R [⟨.slice (some ⟨gm, 0, none⟩) L mc, 1, L, bs M⟩, rkd gk] → ∀ k (hk : k < M.length), True ∧ w'.cell? ⟨gm, 0 + k, none⟩ = some (.int .u8 (M[k].toNat : Int))) := Mx.hid (fun w' R h k hk => by
            obtain ⟨ao, cap, hv, _, _, _, _, hc⟩ := h.q0
            simp only [Value.slice.injEq, true_and] at hv
            obtain ⟨rfl, rfl⟩ := hv
            obtain ⟨a, ha, hcell⟩ := hc k _ (bs_get hk)
            obtain rfl := Option.some.inj ha
            rw [Addr.add_lit] at hcell
            exact ⟨trivial, hcell⟩)
          have HSN := Mx.hid hsN
          clear hs hsM hsN hL0 Hq HQM HME HL HS9 hlt hi hq hm1
          have hmk := HMK.out
          clear HMK
          go_wp2_with fail
          clear hmk
          have hsW := HSN.out.madeAt (u32s Z).toArray 112 1 64 wr.heap.size (by have := HZ.out; simp [u32s_len, this]) (by simp [maxLen]) rfl
          have hsW' : St w (wr.alloc (.cells (u32s Z).toArray 112)) [rwr wr.heap.size (u32s Z), rhr gh (u32s (eatN 0 I8 M).lst)] [⟨.slice (some ⟨gm, 0, none⟩) L mc, 1, L, bs M⟩, rkd gk] := hsW
          have HSW := Mx.hid hsW'
          clear hsW hsW' HSN
          generalize hgw : wr.heap.size = gw at *
          clear hgw
          generalize wr.alloc (.cells (u32s Z).toArray 112) = wz at *
          go_loopw [9] (fun y wr => ∃ (p t : Nat) (W : List U32), Hid (p = 64 * t) ∧ p ≤ L ∧ Hid (W.length = 64) ∧ y = .int .i64 p ∧ St w wr [rwr gw (u32s W), rhr gh (u32s (eatN t I8 M).lst)] [⟨.slice (some ⟨gm, 0, none⟩) L mc, 1, L, bs M⟩, rkd gk]) (fun y _ => L - (intOf y).toNat)
          case atStart => exact ⟨0, 0, Z, Mx.hid rfl, by omega, HZ, rfl, HSW.out⟩
          case round =>
            obtain ⟨p, t, W, Hp, hp, HW, rfl, hs⟩ := hrel
            clear HSW
            by_cases hlt : p < L
            · have hp64 : p + 64 ≤ L := by have := Hp.out; omega
              have hpp : (p : Int) < (L : Int) := by omega
              obtain ⟨B, HB⟩ : ∃ B, Hid (B = (M.drop p).take 64) := ⟨_, rfl⟩
              have HNX := Mx.hid (show eatN (t + 1) I8 M = comp (eatN t I8 M) B by rw [HB.out, Hp.out]; exact eatN_snoc t I8 M)
              generalize eatN t I8 M = s at hs HNX
              have HS0 := Mx.hid hs
              clear hs hlt hp
              go_wp2_with fail
              go_loopw [10] (fun x wa => ∃ i : Nat, i ≤ 16 ∧ x = .int .i64 i ∧ St w wa [rwr gw (u32s (sched B i ++ W.drop i)), rhr gh (u32s s.lst)] [⟨.slice (some ⟨gm, 0, none⟩) L mc, 1, L, bs M⟩, rkd gk]) (fun x _ => 16 - (intOf x).toNat)
              case atStart => exact ⟨0, by omega, rfl, HS0.out⟩
              case round =>
                obtain ⟨i, hi, rfl, hs⟩ := hrel
                clear HS0
                have Hlen := Mx.hid (sched_len B i)
                by_cases hlt : i < 16
                · go_light
                  as_aux_lemma =>
                    have hii : (i : Int) < 16 := by omega
                    obtain ⟨j, hj⟩ : ∃ j, j = p + 4 * i := ⟨_, rfl⟩
                    have e4 : (p : Int) + 4 * (i : Int) = (j : Int) := by omega
                    have hj4 : j + 4 ≤ L := by omega
                    have hML := HML.out
                    obtain ⟨_, x0, x1, x2, x3, c0, c1, c2, c3, hN⟩ := word_cellsM (M := M) (p := p) (by omega) (l := sched B i) hlt hj (HCM.out _ _ hs)
                    rw [← HB.out] at hN
                    rw [Nat.zero_add] at c0 c1 c2 c3
                    have HN := Mx.hid hN
                    clear hN hML
                    have m0 : IntKind.i64.wrap (j : Int) = (j : Int) := IntWalk.i64_in _ (by omega)
                    have m1 : IntKind.i64.wrap ((j : Int) + 1) = (j : Int) + 1 := IntWalk.i64_in _ (by omega)
                    have m2 : IntKind.i64.wrap ((j : Int) + 2) = (j : Int) + 2 := IntWalk.i64_in _ (by omega)
                    have m3 : IntKind.i64.wrap ((j : Int) + 3) = (j : Int) + 3 := IntWalk.i64_in _ (by omega)
                    have t1 : ((j : Int) + 1).toNat = j + 1 := by omega
                    have t2 : ((j : Int) + 2).toNat = j + 2 := by omega
                    have t3 : ((j : Int) + 3).toNat = j + 3 := by omega
                    have n1 : (0 : Int) ≤ (j : Int) + 1 := by omega
                    have n2 : (0 : Int) ≤ (j : Int) + 2 := by omega
                    have n3 : (0 : Int) ≤ (j : Int) + 3 := by omega
                    have k0 : (j : Int) < (L : Int) := by omega
                    have k1 : (j : Int) + 1 < (L : Int) := by omega
                    have k2 : (j : Int) + 2 < (L : Int) := by omega
                    have k3 : (j : Int) + 3 < (L : Int) := by omega
                    have h64 : (i : Int) < 64 := by omega
                    have l0 : j < L := by omega
                    have l1 : j + 1 < L := by omega
                    have l2 : j + 2 < L := by omega
                    have l3 : j + 3 < L := by omega
                    have HLY := Mx.hid (lay_over Hlen.out HW.out (by omega) (nextW B (sched B i) i))
                    clear hj
                    go_wp2_with fail
                    go_still_tail 32, (by kernel_rfl)
                    clear c0 c1 c2 c3 e4 m0 m1 m2 m3 t1 t2 t3 n1 n2 n3 k0 k1 k2 k3 l0 l1 l2 l3 h64
                    change wpList _ _ _ _ _ (World.drew _)
                    have hsd := hs.drew
                    generalize World.drew _ = wd at hsd ⊢
                    rw [w_word x0 x1 x2 x3, ← HN.out]
                    generalize hnw : nextW B (sched B i) i = nw at *
                    have HNW := Mx.hid hnw
                    clear hnw hs
                    go_wp2_with ((with_reducible show wpList _ _ _ _ _ _); refine wpl_store1 rfl 112 _ _ rfl hsd (i) rfl (.int .u32 (nw.toNat : Int)) rfl rfl (by kernel_rfl) (by rw [u32s_len, List.length_append, Hlen.out, List.length_drop, HW.out]; omega) rfl ?_; intro w2 hs2)
                    go_roundw
                    case rel => exact ⟨i + 1, by omega, by go_num, by rw [sched, HNW.out, ← HLY.out]; exact hs2⟩
                    case measure => simp [intOf]; omega
                · obtain rfl : i = 16 := by omega
                  have HS1 := Mx.hid hs
                  clear hs hlt hi Hlen
                  go_wp2_with fail
                  go_loopw [12] (fun x wb => ∃ i : Nat, 16 ≤ i ∧ i ≤ 64 ∧ x = .int .i64 i ∧ St w wb [rwr gw (u32s (sched B i ++ W.drop i)), rhr gh (u32s s.lst)] [⟨.slice (some ⟨gm, 0, none⟩) L mc, 1, L, bs M⟩, rkd gk]) (fun x _ => 64 - (intOf x).toNat)
                  case atStart => exact ⟨16, by omega, by omega, rfl, HS1.out⟩
                  case round =>
                    obtain ⟨i, hi0, hi, rfl, hs⟩ := hrel
                    clear HS1
                    have Hlen := Mx.hid (sched_len B i)
                    by_cases hlt : i < 64
                    · go_light
                      as_aux_lemma =>
                        have hii : (i : Int) < 64 := by omega
                        have hcell : ∀ k, k < i → World.cell? _ ⟨gw, k, none⟩ = some (.int .u32 (((sched B i).getD k 0).toNat : Int)) := fun k hk => by
                          refine hs.rcell (List.mem_cons_self ..) ?_
                          rw [u32s_app, List.getElem?_append_left (by rw [u32s_len, Hlen.out]; exact hk), u32s_get (by rw [Hlen.out]; exact hk)]
                          simp [Hlen.out, hk]
                        have c15 := hcell (i - 15) (by omega)
                        have c2 := hcell (i - 2) (by omega)
                        have c16 := hcell (i - 16) (by omega)
                        have c7 := hcell (i - 7) (by omega)
                        have hN : nextW B (sched B i) i = ((((sched B i).getD (i - 16) 0 + sig0 ((sched B i).getD (i - 15) 0)) + (sched B i).getD (i - 7) 0) + sig1 ((sched B i).getD (i - 2) 0)) := by
                          unfold nextW; rw [if_neg (by omega)]
                        generalize (sched B i).getD (i - 15) 0 = y15 at *
                        generalize (sched B i).getD (i - 2) 0 = y2 at *
                        generalize (sched B i).getD (i - 16) 0 = y16 at *
                        generalize (sched B i).getD (i - 7) 0 = y7 at *
                        have HN := Mx.hid hN
                        have HLY := Mx.hid (lay_over Hlen.out HW.out hlt (nextW B (sched B i) i))
                        clear hN hcell
                        have m15 : IntKind.i64.wrap ((i : Int) - 15) = (i : Int) - 15 := IntWalk.i64_in _ (by omega)
                        have t15 : ((i : Int) - 15).toNat = i - 15 := by omega
                        have n15 : (0 : Int) ≤ (i : Int) - 15 := by omega
                        have k15 : (i : Int) - 15 < 64 := by omega
                        have C16 := Mx.hid c16
                        have C7 := Mx.hid c7
                        have C2 := Mx.hid c2
                        clear c16 c7 c2
                        have hS0 := w_sig0 y15
                        generalize sig0 y15 = s0 at *
                        go_wp2_with fail
                        go_quiet ((go_at_call 64; first | ((with_reducible show Calls _ _ #[_, .int .i64 7] _ _); exact Calls.quiet_of (turn7_any y15 _)) | ((with_reducible show Calls _ _ #[_, .int .i64 18] _ _); exact Calls.quiet_of (turn18_any y15 _))))
                        have hs2 := hs.drewN nq
                        have c2 : (World.drewN _ nq).cell? ⟨gw, i - 2, none⟩ = _ := C2.out
                        have c16 : (World.drewN _ nq).cell? ⟨gw, i - 16, none⟩ = _ := C16.out
                        have c7 : (World.drewN _ nq).cell? ⟨gw, i - 7, none⟩ = _ := C7.out
                        clear c15 m15 t15 n15 k15 C16 C7 C2 hs hS0
                        generalize World.drewN _ nq = wc at *
                        have m2 : IntKind.i64.wrap ((i : Int) - 2) = (i : Int) - 2 := IntWalk.i64_in _ (by omega)
                        have t2 : ((i : Int) - 2).toNat = i - 2 := by omega
                        have n2 : (0 : Int) ≤ (i : Int) - 2 := by omega
                        have k2 : (i : Int) - 2 < 64 := by omega
                        have C16 := Mx.hid c16
                        have C7 := Mx.hid c7
                        clear c16 c7
                        have hS1 := w_sig1 y2
                        generalize sig1 y2 = s1 at *
                        go_wp2_with fail
                        go_quiet ((go_at_call 64; first | ((with_reducible show Calls _ _ #[_, .int .i64 17] _ _); exact Calls.quiet_of (turn17_any y2 _)) | ((with_reducible show Calls _ _ #[_, .int .i64 19] _ _); exact Calls.quiet_of (turn19_any y2 _))))
                        have hs3 := hs2.drewN nq
                        have c16 : (World.drewN _ nq).cell? ⟨gw, i - 16, none⟩ = _ := C16.out
                        have c7 : (World.drewN _ nq).cell? ⟨gw, i - 7, none⟩ = _ := C7.out
                        clear c2 m2 t2 n2 k2 C16 C7 hs2 hS1
                        generalize World.drewN _ nq = we at *
                        have m16 : IntKind.i64.wrap ((i : Int) - 16) = (i : Int) - 16 := IntWalk.i64_in _ (by omega)
                        have m7 : IntKind.i64.wrap ((i : Int) - 7) = (i : Int) - 7 := IntWalk.i64_in _ (by omega)
                        have t16 : ((i : Int) - 16).toNat = i - 16 := by omega
                        have t7 : ((i : Int) - 7).toNat = i - 7 := by omega
                        have n16 : (0 : Int) ≤ (i : Int) - 16 := by omega
                        have n7 : (0 : Int) ≤ (i : Int) - 7 := by omega
                        have k16 : (i : Int) - 16 < 64 := by omega
                        have k7 : (i : Int) - 7 < 64 := by omega
                        have o7 : (7 : Int) ≤ (i : Int) := by omega
                        have o16 : (16 : Int) ≤ (i : Int) := by omega
                        go_wp2_with fail
                        go_still_tail 18, (by kernel_rfl)
                        clear c16 c7 m16 m7 t16 t7 n16 n7 k16 k7 o7 o16
                        change wpList _ _ _ _ _ (World.drew _)
                        have hse := hs3.drew
                        generalize World.drew _ = wf at hse ⊢
                        rw [w_addW, w_addW, w_addW, ← HN.out]
                        generalize hnw : nextW B (sched B i) i = nw at *
                        have HNW := Mx.hid hnw
                        clear hnw hs3
                        go_wp2_with ((with_reducible show wpList _ _ _ _ _ _); refine wpl_store1 rfl 112 _ _ rfl hse (i) rfl (.int .u32 (nw.toNat : Int)) rfl rfl (by kernel_rfl) (by rw [u32s_len, List.length_append, Hlen.out, List.length_drop, HW.out]; omega) rfl ?_; intro w2 hs2)
                        refine ⟨?_, ?measure⟩
                        iterate 65 apply Exists.intro
                        refine ⟨?rel, rfl⟩
                        case rel => exact ⟨i + 1, by omega, by omega, by go_num, by rw [sched, HNW.out, ← HLY.out]; exact hs2⟩
                        case measure => simp [intOf]; omega
                    · obtain rfl : i = 64 := by omega
                      rw [List.drop_eq_nil_of_le (by rw [HW.out]; omega), List.append_nil] at hs
                      have HNB : Hid (comp s B = s.add (rnds K64 (sched B 64) s 64)) := Mx.hid rfl
                      generalize sched B 64 = ws at *
                      have HLS := Hlen
                      have hs2 := hs.madeAt (u32s (List.replicate 8 0)).toArray 115 1 8 wr.heap.size rfl (by simp [maxLen]) rfl
                      have HS2 := Mx.hid hs2
                      clear hs hs2 hlt hi0 hi Hlen
                      have HL8 := Mx.hid (show 0 + (u32s s.lst).length ≤ (u32s (List.replicate 8 0)).length by simp [u32s_len, S8.lst_len])
                      go_wp2_with ((with_reducible show wpList _ _ _ _ _ _); refine wpl_copyS rfl _ _ 110 110 rfl Tryz.underlying110 (by kernel_rfl) HS2.out 0 8 8 rfl (by exact HS2.out.sl2) (by omega) HL8.out (u32s_one s.lst) ?_; intro w3 hs3)
                      have hs4 : St w w3 [row8 wr.heap.size (u32s (rnds K64 ws s 0).lst), rwr gw (u32s ws), rhr gh (u32s s.lst)] [⟨.slice (some ⟨gm, 0, none⟩) L mc, 1, L, bs M⟩, rkd gk] := hs3.cast rfl (whole (n := (u32s s.lst).length) (by simp [u32s_len, S8.lst_len]))
                      have HS4 := Mx.hid hs4
                      clear hs3 hs4 HS2 HL8
                      generalize wr.heap.size = gv at *
                      go_loopw [16] (fun x wb => ∃ i : Nat, i ≤ 64 ∧ x = .int .i64 i ∧ St w wb [row8 gv (u32s (rnds K64 ws s i).lst), rwr gw (u32s ws), rhr gh (u32s s.lst)] [⟨.slice (some ⟨gm, 0, none⟩) L mc, 1, L, bs M⟩, rkd gk]) (fun x _ => 64 - (intOf x).toNat)
                      case atStart => exact ⟨0, by omega, rfl, HS4.out⟩
                      case round =>
                        obtain ⟨i, hi, rfl, hs⟩ := hrel
                        clear HS4
                        by_cases hlt : i < 64
                        · go_light
                          have hii : (i : Int) < 64 := by omega
                          have HN := Mx.hid (rnds_succ K64 ws s i)
                          generalize rnds K64 ws s i = t at hs HN
                          obtain ⟨a, b', c, d, e, f, gg, h8⟩ := t
                          have cw : wr.cell? ⟨gw, i, none⟩ = some (.int .u32 ((ws.getD i 0).toNat : Int)) := by
                            refine hs.rcell (List.mem_cons_of_mem _ (List.mem_cons_self ..)) ?_
                            rw [u32s_get (by rw [HLS.out]; exact hlt)]
                            simp [HLS.out, hlt]
                          have ck : wr.cell? ⟨gk, i, none⟩ = some (.int .u32 ((K64.getD i 0).toNat : Int)) := by
                            obtain ⟨ao', cap', hv, _, _, _, _, hc⟩ := hs.q1
                            simp only [Value.slice.injEq] at hv
                            obtain ⟨rfl, _, _⟩ := hv
                            obtain ⟨a', ha, hcell⟩ := hc i (.int .u32 ((K64.getD i 0).toNat : Int)) (by
                              rw [u32s_get (by simpa [K64] using hlt)]
                              rw [List.getD_eq_getElem?_getD, List.getElem?_eq_getElem (by simpa [K64] using hlt)]
                              rfl)
                            obtain rfl := Option.some.inj ha
                            rw [Addr.add_lit, Nat.zero_add] at hcell
                            exact hcell
                          generalize K64.getD i 0 = kk at *
                          generalize ws.getD i 0 = ww at *
                          have CW := Mx.hid cw
                          have CK := Mx.hid ck
                          clear cw ck
                          have c4 := (show World.cell? wr ⟨gv, 4, none⟩ = some (.int .u32 (e.toNat : Int)) from hs.rcell (List.mem_cons_self ..) rfl)
                          have hX := w_sg1 e
                          generalize hxx : sg1 e = x at hX
                          have HXX := Mx.hid hxx
                          clear hxx
                          go_wp2_with fail
                          go_quiet ((go_at_call 64; first | ((with_reducible show Calls _ _ #[_, .int .i64 6] _ _); exact Calls.quiet_of (turn6_any e _)) | ((with_reducible show Calls _ _ #[_, .int .i64 11] _ _); exact Calls.quiet_of (turn11_any e _)) | ((with_reducible show Calls _ _ #[_, .int .i64 25] _ _); exact Calls.quiet_of (turn25_any e _))))
                          replace hs := hs.drewN nq
                          replace CW : Hid ((wr.drewN nq).cell? ⟨gw, i, none⟩ = _) := CW
                          replace CK : Hid ((wr.drewN nq).cell? ⟨gk, i, none⟩ = _) := CK
                          clear c4 hX
                          generalize wr.drewN nq = wd at *
                          have c4 := (show World.cell? wd ⟨gv, 4, none⟩ = some (.int .u32 (e.toNat : Int)) from hs.rcell (List.mem_cons_self ..) rfl)
                          have c5 := (show World.cell? wd ⟨gv, 5, none⟩ = some (.int .u32 (f.toNat : Int)) from hs.rcell (List.mem_cons_self ..) rfl)
                          have c6 := (show World.cell? wd ⟨gv, 6, none⟩ = some (.int .u32 (gg.toNat : Int)) from hs.rcell (List.mem_cons_self ..) rfl)
                          have c7 := (show World.cell? wd ⟨gv, 7, none⟩ = some (.int .u32 (h8.toNat : Int)) from hs.rcell (List.mem_cons_self ..) rfl)
                          go_wp2_with fail
                          have hCH : bits BinOp.xor IntKind.u32 (bits BinOp.and IntKind.u32 (e.toNat : Int) (f.toNat : Int)) (bits BinOp.and IntKind.u32 (bits BinOp.xor IntKind.u32 IntKind.u32.max (e.toNat : Int)) (gg.toNat : Int)) = ((chf e f gg).toNat : Int) := by
                            rw [w_not, w_and, w_and, w_xor]; rfl
                          rw [hCH]
                          generalize hchh : chf e f gg = ch at *
                          have HCH := Mx.hid hchh
                          clear hchh hCH c4 c5 c6
                          have cw := CW.out
                          have ck := CK.out
                          go_quiet (fail)
                          rw [w_sum5]
                          replace hs := hs.drewN nq
                          clear c7 cw ck CW CK
                          generalize wd.drewN nq = we at *
                          have HT : Hid (((((h8 + x) + ch) + kk) + ww) = tm1 ⟨a, b', c, d, e, f, gg, h8⟩ kk ww) := Mx.hid (by rw [← HXX.out, ← HCH.out]; rfl)
                          generalize ((((h8 + x) + ch) + kk) + ww) = T at HT ⊢
                          have hY := w_sg0 a
                          generalize hyy : sg0 a = y at hY
                          have HYY := Mx.hid hyy
                          clear hyy
                          have c0 := (show World.cell? we ⟨gv, 0, none⟩ = some (.int .u32 (a.toNat : Int)) from hs.rcell (List.mem_cons_self ..) rfl)
                          go_wp2_with fail
                          go_quiet ((go_at_call 64; first | ((with_reducible show Calls _ _ #[_, .int .i64 2] _ _); exact Calls.quiet_of (turn2_any a _)) | ((with_reducible show Calls _ _ #[_, .int .i64 13] _ _); exact Calls.quiet_of (turn13_any a _)) | ((with_reducible show Calls _ _ #[_, .int .i64 22] _ _); exact Calls.quiet_of (turn22_any a _))))
                          replace hs := hs.drewN nq
                          clear c0 hY
                          generalize we.drewN nq = wf at *
                          have c0 := (show World.cell? wf ⟨gv, 0, none⟩ = some (.int .u32 (a.toNat : Int)) from hs.rcell (List.mem_cons_self ..) rfl)
                          have c1 := (show World.cell? wf ⟨gv, 1, none⟩ = some (.int .u32 (b'.toNat : Int)) from hs.rcell (List.mem_cons_self ..) rfl)
                          have c2 := (show World.cell? wf ⟨gv, 2, none⟩ = some (.int .u32 (c.toNat : Int)) from hs.rcell (List.mem_cons_self ..) rfl)
                          have c3 := (show World.cell? wf ⟨gv, 3, none⟩ = some (.int .u32 (d.toNat : Int)) from hs.rcell (List.mem_cons_self ..) rfl)
                          have c4 := (show World.cell? wf ⟨gv, 4, none⟩ = some (.int .u32 (e.toNat : Int)) from hs.rcell (List.mem_cons_self ..) rfl)
                          have c5 := (show World.cell? wf ⟨gv, 5, none⟩ = some (.int .u32 (f.toNat : Int)) from hs.rcell (List.mem_cons_self ..) rfl)
                          have c6 := (show World.cell? wf ⟨gv, 6, none⟩ = some (.int .u32 (gg.toNat : Int)) from hs.rcell (List.mem_cons_self ..) rfl)
                          have hMJ : bits BinOp.xor IntKind.u32 (bits BinOp.xor IntKind.u32 (bits BinOp.and IntKind.u32 (a.toNat : Int) (b'.toNat : Int)) (bits BinOp.and IntKind.u32 (a.toNat : Int) (c.toNat : Int))) (bits BinOp.and IntKind.u32 (b'.toNat : Int) (c.toNat : Int)) = ((majf a b' c).toNat : Int) := by
                            rw [w_and, w_and, w_and, w_xor, w_xor]; rfl
                          generalize hmm : majf a b' c = mj at hMJ
                          have HMM := Mx.hid hmm
                          have hP : ((T.toNat : Int) + (y.toNat : Int) + (mj.toNat : Int)) % 4294967296 = (((T + y) + mj : U32).toNat : Int) := w_sum3 T y mj
                          generalize hpp : (T + y) + mj = pn at hP
                          have hD := w_add d T
                          generalize hqq : d + T = qn at hD
                          have HNEW : Hid (rnd ⟨a, b', c, d, e, f, gg, h8⟩ kk ww = ⟨pn, a, b', c, qn, e, f, gg⟩) := Mx.hid (by
                            unfold rnd
                            rw [← HT.out, HYY.out, HMM.out, hpp, hqq])
                          clear hmm hpp hqq
                          go_wp2_with ((with_reducible show wpList _ _ _ _ _ _); refine wpl_storeA rfl 115 _ _ rfl Tryz.a8 hs (0) rfl (u32s (S8.lst ⟨pn, a, b', c, qn, e, f, gg⟩)) rfl (by rfl) (by simp [u32s, S8.lst]) (u32s_one _) ?_; intro w5 hs5)
                          exact ⟨⟨i + 1, by omega, by go_num, by rw [HN.out, HNEW.out]; exact hs5.cast rfl (whole rfl)⟩, by simp [intOf]; omega⟩
                        · obtain rfl : i = 64 := by omega
                          generalize rnds K64 ws s 64 = t at *
                          have HS5 : Hid (St w wr [rhr gh (u32s (mixL s t 0)), row8 gv (u32s t.lst), rwr gw (u32s ws)] _) := Mx.hid (hs.perm (List.perm_append_comm (l₁ := [row8 gv (u32s t.lst), rwr gw (u32s ws)]) (l₂ := [rhr gh (u32s s.lst)])))
                          clear hs hlt hi
                          go_wp2_with fail
                          go_loopw [22] (fun x wb => ∃ i : Nat, i ≤ 8 ∧ x = .int .i64 i ∧ St w wb [rhr gh (u32s (mixL s t i)), row8 gv (u32s t.lst), rwr gw (u32s ws)] [⟨.slice (some ⟨gm, 0, none⟩) L mc, 1, L, bs M⟩, rkd gk]) (fun x _ => 8 - (intOf x).toNat)
                          case atStart => exact ⟨0, by omega, rfl, HS5.out⟩
                          case round =>
                            obtain ⟨i, hi, rfl, hs⟩ := hrel
                            clear HS5
                            by_cases hlt : i < 8
                            · go_light
                              as_aux_lemma =>
                                have hii : (i : Int) < 8 := by omega
                                have hx : wr.cell? ⟨gv, i, none⟩ = some (.int .u32 ((t.lst.getD i 0).toNat : Int)) := by
                                  refine hs.rcell (List.mem_cons_of_mem _ (List.mem_cons_self ..)) ?_
                                  rw [u32s_get (by rw [S8.lst_len]; exact hlt), List.getD_eq_getElem?_getD, List.getElem?_eq_getElem (by rw [S8.lst_len]; exact hlt)]
                                  rfl
                                have hcs : wr.cell? ⟨gh, i, none⟩ = some (.int .u32 ((s.lst.getD i 0).toNat : Int)) := hs.rcell (List.mem_cons_self ..) (mixL_cell' s t hlt)
                                have HSET := Mx.hid (mixL_set' s t hlt)
                                have hA := w_addW (s.lst.getD i 0) (t.lst.getD i 0)
                                generalize s.lst.getD i 0 = x at *
                                generalize t.lst.getD i 0 = y at *
                                generalize x + y = z at *
                                go_wp2_with fail
                                go_still_tail 11, (by kernel_rfl)
                                clear hcs hx hA
                                change wpList _ _ _ _ _ wr.drew
                                have hsd := hs.drew
                                generalize wr.drew = wd at hsd ⊢
                                go_wp2_with ((with_reducible show wpList _ _ _ _ _ _); refine wpl_store1 rfl 112 _ _ rfl hsd (i) rfl (.int .u32 (z.toNat : Int)) rfl rfl (by kernel_rfl) (by simp [u32s_len, mixL, S8.lst_len]; omega) rfl ?_; intro w5 hs5)
                                refine ⟨?_, ?measure⟩
                                iterate 16 apply Exists.intro
                                refine ⟨?rel, rfl⟩
                                case rel => exact ⟨i + 1, by omega, by go_num, by rw [← HSET.out]; exact hs5⟩
                                case measure => simp [intOf]; omega
                            · obtain rfl : i = 8 := by omega
                              have hs9 : St w wr [rwr gw (u32s ws), rhr gh (u32s (s.add t).lst)] [⟨.slice (some ⟨gm, 0, none⟩) L mc, 1, L, bs M⟩, rkd gk] := (hs.perm (List.perm_append_comm (l₁ := [rhr gh (u32s (s.add t).lst)]) (l₂ := [row8 gv (u32s t.lst), rwr gw (u32s ws)]))).tail
                              rw [← HNB.out, ← HNX.out] at hs9
                              have HS9 := Mx.hid hs9
                              clear hs hs9 hlt hi
                              go_wp2_with fail
                              first
                                | exact ⟨⟨p + 64, _, ws, Mx.hid (by have := Hp.out; omega), by omega, HLS, by go_num, HS9.out⟩, by simp [intOf]; omega⟩
                                | (refine ⟨?_, ?measure⟩
                                   iterate 233 apply Exists.intro
                                   refine ⟨?rel, rfl⟩
                                   case rel => exact ⟨p + 64, _, ws, Mx.hid (by have := Hp.out; omega), by omega, HLS, by go_num, HS9.out⟩
                                   case measure => simp [intOf]; omega)
            · as_aux_lemma =>
                have hpL : ¬ (p < L) := hlt
                have HE := Mx.hid (show eatN t I8 M = eatS I8 M by
                  unfold eatS; rw [HML.out, show L / 64 = t by have := Hp.out; omega])
                rw [HE.out] at hs
                have HSH := Mx.hid (show outW (eatS I8 M).lst = sha l by unfold sha; rw [HM.out])
                generalize eatS I8 M = s at *
                have hs2 : St w wr [⟨.slice none 0 0, 5, 1, 4 * 0, bs (outW (s.lst.take 0))⟩, rhr gh (u32s s.lst)] [] := (hs.tail.addNil 5 1).noQ
                have HS2 := Mx.hid hs2
                clear hs hs2 hlt HCM HE
                go_wp2_with fail
                go_loopw [23, 24] (fun x y wb => ∃ i : Nat, i ≤ 8 ∧ y = .int .i64 i ∧ St w wb [⟨x, 5, 1, 4 * i, bs (outW (s.lst.take i))⟩, rhr gh (u32s s.lst)] []) (fun _ y _ => 8 - (intOf y).toNat)
                case atStart => exact ⟨0, by omega, rfl, HS2.out⟩
                case round =>
                  obtain ⟨i, hi, rfl, hs⟩ := hrel
                  clear HS2
                  by_cases hlt : i < 8
                  · have hii : (i : Int) < 8 := by omega
                    have HXI := Mx.hid (show (u32s s.lst)[i]? = some (.int .u32 ((s.lst.getD i 0).toNat : Int)) by
                      rw [u32s_get (by rw [S8.lst_len]; exact hlt), List.getD_eq_getElem?_getD, List.getElem?_eq_getElem (by rw [S8.lst_len]; exact hlt)]; rfl)
                    have c0 : wr.cell? ⟨gh, i, none⟩ = some (.int .u32 ((s.lst.getD i 0).toNat : Int)) := hs.rcell (List.mem_cons_of_mem _ (List.mem_cons_self ..)) HXI.out
                    have HSN := Mx.hid (outW_snoc s hlt)
                    generalize s.lst.getD i 0 = x at *
                    go_wp2_with fail
                    go_region_held3 (fun W' => W'.cell? ⟨gh, i, none⟩ = some (.int .u32 (x.toNat : Int))) (first | exact hs1.rcell (List.mem_cons_of_mem _ (List.mem_cons_self ..)) HXI.out | go_keep) ((refine step_app rfl _ _ 51 rfl Tryz.elU8 (by exact hs.drew.alloc _) rfl (by exact Sl.four _ _ _ _ _ _) (by intro u hu; simp at hu; rcases hu with rfl | rfl | rfl | rfl <;> rfl) (by omega) ?_; intro v1 w1 hs1 _))
                    go_wp2_with fail
                    first
                      | exact ⟨⟨i + 1, by omega, by go_num, hs1.cast (by omega) (by rw [← HSN.out, ← w4_cellsW])⟩, by simp [intOf]; omega⟩
                      | (go_roundw
                         case rel => exact ⟨i + 1, by omega, by go_num, hs1.cast (by omega) (by rw [← HSN.out, ← w4_cellsW])⟩
                         case measure => simp [intOf]; omega)
                  · obtain rfl : i = 8 := by omega
                    have hsR := hs.cast (n' := 32) (xs' := bs (outW s.lst)) rfl (by rw [List.take_of_length_le (by rw [S8.lst_len]; omega)])
                    rw [HSH.out] at hsR
                    have HSR := Mx.hid hsR.head
                    clear hs hsR
                    go_wp2_with fail
                    go_ret
                    exact ⟨_, rfl, HSR.out⟩
    · go_light
      as_aux_lemma =>
        have b1 : ((q : Int) % 64 != 56) = true := by
          rw [bne_iff_ne]; have := mt (HT.out m hm1 hm2).1 hme; have := Hq.out; omega
        have HME := Mx.hid hme
        clear hme HS6
        go_wp2_with (at_builtin; refine wpl_app rfl _ _ 51 rfl Tryz.elU8 (hs.alloc _) rfl (by exact Sl.one _ _ _) (by intro u hu; simp at hu; subst hu; rfl) (by omega) ?_; intro v5 w5 hs5 _)
        go_roundw
        case rel => exact ⟨q + 1, m + 1, Mx.hid (by rw [Hq.out]; rfl), by omega, by have := HME.out; omega, by have := Hq.out; omega, hs5.cast rfl (by rw [bs_app l, List.append_assoc, padH_snoc hm1, ← bs_app])⟩
        case measure => rw [hs5.sl0.lenV]; simp only [lenV]; have := HME.out; have := Hq.out; omega
end Go.Proofs.YtloogjdafhjheaaGreat
