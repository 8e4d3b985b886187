/- The walk of marlaw2.WireCrcs. -/
import Derived.Test.YtdalcdgkigkbbaaWireF
import Derived.Test.YtdalcdgkigkbbaaCrcQ
import Derived.Test.YtdalcdgkigkbbaaLib3
namespace Go.Proofs.Ytdalcdgkigkbbaa
open Go.RowKit Go.Mx

theorem xor3_u8 (x y z : UInt8) : bits BinOp.xor IntKind.u8 (bits BinOp.xor IntKind.u8 (x.toNat : Int) (y.toNat : Int)) (z.toNat : Int) = ((x ^^^ y ^^^ z).toNat : Int) := by
  have hx := x.toNat_lt
  have hy := y.toNat_lt
  have hz := z.toNat_lt
  have hxy := (x ^^^ y).toNat_lt
  have e : ∀ p q : UInt8, bits BinOp.xor IntKind.u8 (p.toNat : Int) (q.toNat : Int) = ((p ^^^ q).toNat : Int) := by
    intro p q
    have hp := p.toNat_lt
    have hq := q.toNat_lt
    have hpq := (p ^^^ q).toNat_lt
    show IntKind.u8.wrap ((BitVec.ofInt 8 (p.toNat : Int) ^^^ BitVec.ofInt 8 (q.toNat : Int)).toNat : Int) = _
    rw [BitVec.toNat_xor, BitVec.ofInt_natCast, BitVec.ofInt_natCast, BitVec.toNat_ofNat, BitVec.toNat_ofNat, Nat.mod_eq_of_lt (by omega), Nat.mod_eq_of_lt (by omega), ← UInt8.toNat_xor]
    rw [IntKind.wrap_u8]
    omega
  rw [e, e]

theorem xor2_u8 (p q : UInt8) : bits BinOp.xor IntKind.u8 (p.toNat : Int) (q.toNat : Int) = ((p ^^^ q).toNat : Int) := by
  have hp := p.toNat_lt
  have hq := q.toNat_lt
  have hpq := (p ^^^ q).toNat_lt
  show IntKind.u8.wrap ((BitVec.ofInt 8 (p.toNat : Int) ^^^ BitVec.ofInt 8 (q.toNat : Int)).toNat : Int) = _
  rw [BitVec.toNat_xor, BitVec.ofInt_natCast, BitVec.ofInt_natCast, BitVec.toNat_ofNat, BitVec.toNat_ofNat, Nat.mod_eq_of_lt (by omega), Nat.mod_eq_of_lt (by omega), ← UInt8.toNat_xor]
  rw [IntKind.wrap_u8]
  omega
theorem turn_len {a : List UInt8} {k : Nat} (hk : k < a.length) (z : UInt8) : (a.take k ++ [z] ++ a.drop (k + 1)).length = a.length := by simp; omega
theorem turn_row {a : List UInt8} {k : Nat} {y : UInt8} (_hk : k < a.length) (_hy : a[k] = y) (x : UInt8) : (bs a).take k ++ [Value.int .u8 ((y ^^^ x).toNat : Int)] ++ (bs a).drop (k + 1) = bs (a.take k ++ [y ^^^ x] ++ a.drop (k + 1)) := by
  simp [bs, List.map_take, List.map_drop]
theorem turn_crc {a : List UInt8} {k : Nat} {y x : UInt8} (hk : k < a.length) (hy : a[k] = y) (hx : x ≠ 0) : (((crcS (a.take k ++ [y ^^^ x] ++ a.drop (k + 1))).toNat : Int) != ((crcS a).toNat : Int)) = true := by
  have hne : y ^^^ x ≠ y := by
    intro h
    apply hx
    have : y ^^^ (y ^^^ x) = y ^^^ y := by rw [h]
    rw [← UInt8.xor_assoc, UInt8.xor_self] at this
    simpa using this
  have h1 := crcS_turn (l := a.take k) (m := a.drop (k + 1)) hne
  have e : a.take k ++ [y] ++ a.drop (k + 1) = a := by
    rw [← hy, List.append_assoc, List.singleton_append, ← List.drop_eq_getElem_cons hk, List.take_append_drop]
  rw [e] at h1
  simp only [bne_iff_ne, ne_eq, Int.natCast_inj]
  exact fun h => h1 (BitVec.eq_of_toNat_eq h)
theorem crc_row {D : List UInt8} {C : List Value} {i : Nat} {y : UInt8} (hi : i < D.length) (hc : C.length = D.length) (hy : D[i]? = some y) :
    (bs (D.take i) ++ C.drop i).take i ++ [Value.int .u8 (y.toNat : Int)] ++ (bs (D.take i) ++ C.drop i).drop (i + 1) = bs (D.take (i + 1)) ++ C.drop (i + 1) := by
  have h1 : (bs (D.take i)).length = i := by rw [bs_len, List.length_take]; omega
  have e1 : (bs (D.take i) ++ C.drop i).take i = bs (D.take i) := by rw [List.take_append_of_le_length (by omega), List.take_of_length_le (by omega)]
  have e2 : (bs (D.take i) ++ C.drop i).drop (i + 1) = C.drop (i + 1) := by
    rw [List.drop_append, h1, List.drop_of_length_le (by omega), List.nil_append, List.drop_drop]
    congr 1
    omega
  have e3 : D[i] = y := by rw [List.getElem?_eq_getElem hi] at hy; exact Option.some.inj hy
  rw [e1, e2, List.take_succ_eq_append_getElem hi, bs_app, e3]
  rfl

set_option maxRecDepth 100000 in
set_option maxHeartbeats 4000000 in
theorem wireCrcs_good (w : World) (v v' v'' : Value) (a b c : List UInt8) (hv : Sl w 1 v a.length (bs a)) (hv' : Sl w 1 v' b.length (bs b)) (hv'' : Sl w 1 v'' c.length (bs c)) (at_ : Int) (x : UInt8) (ha : a.length ≤ 6000) (hab : b.length = a.length) (hac : c.length = a.length) :
    Calls Try.prog 6 #[v, v', v'', .int .i64 at_, .int .u8 (x.toNat : Int)] w fun e w' => e = .returned (.bool true) ∧ Below w.heap.size w w' := by
  have HX : Hid (crcS (xor3 a b c) = crcS a ^^^ crcS b ^^^ crcS c) := crcS_xor3 hab hac
  have HG : Hid (∀ k, k < a.length → ∃ y1 y2 y3, a[k]? = some y1 ∧ b[k]? = some y2 ∧ c[k]? = some y3 ∧ (xor3 a b c)[k]? = some (y1 ^^^ y2 ^^^ y3)) := fun k hk =>
    ⟨_, _, _, List.getElem?_eq_getElem hk, List.getElem?_eq_getElem (by omega), List.getElem?_eq_getElem (by omega), xor3_get k hk (by omega) (by omega)⟩
  have HXL := hid (xor3_len hab hac)
  obtain ⟨ao, cap, blk, off, rfl, h1, h2, _, hc⟩ := hv.byt
  obtain ⟨ao', cap', blk', off', rfl, h1', h2', _, hc'⟩ := hv'.byt
  obtain ⟨ao'', cap'', blk'', off'', rfl, h1'', h2'', _, hc''⟩ := hv''.byt
  rw [hab] at h1'
  rw [hac] at h1''
  rw [hab, hac]
  have HV := hid hv
  have HV' := hid hv'
  have HV'' := hid hv''
  have HVb : Hid (Sl w 1 (.slice ao' a.length cap') b.length (bs b)) := by rw [← hab]; exact hv'
  have HVc : Hid (Sl w 1 (.slice ao'' a.length cap'') c.length (bs c)) := by rw [← hac]; exact hv''
  have HC := hid hc
  have HC' := hid hc'
  have HC'' := hid hc''
  have HL := hid hab
  have HL' := hid hac
  clear hv hv' hv'' hc hc' hc'' hab hac
  obtain ⟨C, hsz, hmk⟩ := run_make_c (P := Try.prog) Try.elU8 a.length (by omega)
  have HCl := hid (show C.toList.length = a.length by simpa using hsz)
  have d1 : decide (6000 < (a.length : Int)) = false := decide_eq_false (by omega)
  have d2 : ((a.length : Int) != (a.length : Int)) = false := by simp
  go_enter Try.func6, Try.ntmps6
  go_wp2_with fail
  refine (first_any _).mono ?_
  rintro e w1 ⟨rfl, hs⟩
  go_wp2_with fail
  have hmx : a.length ≤ maxLen := by unfold maxLen; omega
  go_region_held3 (fun _ => True) (trivial) (first
    | (refine step_app rfl _ _ 22 rfl Try.elU8 (by exact (hs.drew.madeAt C 5 1 a.length _ hsz hmx (by first | rfl | exact (heap_size_alloc _ _).symm)).madeAt #[] 5 1 0 _ rfl (by simp) (by first | rfl | exact (heap_size_alloc _ _).symm)) rfl (by exact St.old ((hs.drew.alloc _).alloc _) HV.out) (bs_one _) (by omega) ?_; intro vt wA hA _)
    | (refine step_app rfl _ _ 22 rfl Try.elU8 (by exact ((hs.drew.madeAt #[] 5 1 0 _ rfl (by simp) (by first | rfl | exact (heap_size_alloc _ _).symm)).madeAt C 5 1 a.length _ hsz hmx (by first | rfl | exact (heap_size_alloc _ _).symm)).swap) rfl (by exact St.old ((hs.drew.alloc _).alloc _) HV.out) (bs_one _) (by omega) ?_; intro vt wA hA _)
    | (refine step_app rfl _ _ 22 rfl Try.elU8 (by exact hs.drew.madeAt #[] 5 1 0 _ rfl (by simp) (by first | rfl | exact (heap_size_alloc _ _).symm)) rfl (by exact St.old (hs.drew.alloc _) HV.out) (bs_one _) (by omega) ?_; intro vt wA hA _))
  · go_wp2_with fail
    go_loopw [13] (fun y wr => ∃ (i : Nat), i ≤ a.length ∧ y = .int .i64 i ∧ St w wr [⟨.slice (some ⟨w1.heap.size, 0, none⟩) a.length a.length, 5, 1, a.length, bs ((xor3 a b c).take i) ++ C.toList.drop i⟩, ⟨vt, 5, 1, a.length, bs a⟩] []) (fun y _ => a.length - (intOf y).toNat)
    case atStart =>
      exact ⟨0, by omega, rfl, (hA.cast (Nat.zero_add _) (List.nil_append _)).swap⟩
    case round =>
      obtain ⟨i, hi, rfl, hs⟩ := hrel
      obtain ⟨wo, rfl⟩ : ∃ x : World, x = wr := ⟨_, rfl⟩
      by_cases hlt : i < a.length
      · obtain ⟨rfl, c1⟩ := HC.out i hlt
        obtain ⟨rfl, c2⟩ := HC'.out i (by rw [HL.out]; exact hlt)
        obtain ⟨rfl, c3⟩ := HC''.out i (by rw [HL'.out]; exact hlt)
        have c1 := hs.keep c1
        have c2 := hs.keep c2
        have c3 := hs.keep c3
        obtain ⟨y1, y2, y3, e1, e2, e3, e4⟩ := HG.out i hlt
        rw [List.getElem?_eq_getElem hlt] at e1
        rw [List.getElem?_eq_getElem (by rw [HL.out]; exact hlt)] at e2
        rw [List.getElem?_eq_getElem (by rw [HL'.out]; exact hlt)] at e3
        rw [Option.some.inj e1] at c1
        rw [Option.some.inj e2] at c2
        rw [Option.some.inj e3] at c3
        have hx3 := xor3_u8 y1 y2 y3
        have e4 := hid e4
        clear e1 e2 e3
        have hii : (i : Int) < (a.length : Int) := by omega
        go_wp2_with fail
        go_still_tail 17, (by kernel_rfl)
        have hxl : (bs ((xor3 a b c).take i) ++ C.toList.drop i).length = a.length := by
          rw [List.length_append, bs_len, List.length_take, HXL.out, List.length_drop, HCl.out]; omega
        go_wp2_with ((with_reducible show wpList _ _ _ _ _ _); refine wpl_store1 rfl 5 _ _ rfl hs.drew i rfl _ rfl rfl (by kernel_rfl) (by rw [hxl]; exact hlt) rfl ?_; intro w2 hs2)
        go_roundw
        case rel => exact ⟨i + 1, by omega, by go_num, hs2.cast rfl (crc_row (by rw [HXL.out]; omega) (by rw [HCl.out, HXL.out]) e4.out)⟩
        case measure => simp [intOf]; omega
      · obtain rfl : i = a.length := by omega
        have hs := hs.cast HXL.out.symm (show _ = bs (xor3 a b c) by rw [List.take_of_length_le (by rw [HXL.out]; exact Nat.le_refl _), List.drop_of_length_le (by rw [HCl.out]; exact Nat.le_refl _), List.append_nil])
        obtain ⟨A1, x1, x2⟩ : ∃ A1 : W32, bits BinOp.xor IntKind.u32 ((crcS a).toNat : Int) ((crcS b).toNat : Int) = (A1.toNat : Int) ∧ bits BinOp.xor IntKind.u32 (A1.toNat : Int) ((crcS c).toNat : Int) = ((crcS (xor3 a b c)).toNat : Int) :=
          ⟨crcS a ^^^ crcS b, xor_w _ _, by rw [xor_w, HX.out]⟩
        have hii : decide ((a.length : Int) < (a.length : Int)) = false := decide_eq_false (by omega)
        have hbad : decide (at_ < 0) = true ∨ (decide (at_ < 0) = false ∧ decide ((a.length : Int) ≤ at_) = true) ∨ (decide (at_ < 0) = false ∧ decide ((a.length : Int) ≤ at_) = false ∧ ((x.toNat : Int) == 0) = true) ∨ (decide (at_ < 0) = false ∧ decide ((a.length : Int) ≤ at_) = false ∧ ((x.toNat : Int) == 0) = false) := by
          by_cases q1 : at_ < 0
          · exact .inl (decide_eq_true q1)
          · refine .inr ?_
            by_cases q2 : (a.length : Int) ≤ at_
            · exact .inl ⟨decide_eq_false q1, decide_eq_true q2⟩
            · refine .inr ?_
              cases q3 : ((x.toNat : Int) == 0) with
              | true => exact .inl ⟨decide_eq_false q1, decide_eq_false q2, rfl⟩
              | false => exact .inr ⟨decide_eq_false q1, decide_eq_false q2, rfl⟩
        rcases hbad with q1 | ⟨q1, q2⟩ | ⟨q1, q2, q3⟩ | ⟨q1, q2, q3⟩
        · go_wp2_with (first
          | ((with_reducible show wpList _ _ _ _ _ _); refine wpl_want rfl ?_)
          | (go_at_call 12; refine (first_any _).mono ?_; rintro e w2 ⟨rfl, t⟩; replace hs := hs.call0 t; clear t)
          | (go_at_call 19; (with_reducible show Calls _ _ #[.slice (some ⟨w1.heap.size, 0, none⟩) a.length a.length] _ _); refine (crc_any _ (xor3 a b c) _ (hs.sl0) (by rw [HXL.out]; omega)).mono ?_; rintro e w' ⟨rfl, t⟩; replace hs := hs.call0 t; clear t)
          | (go_at_call 19; (with_reducible show Calls _ _ #[.slice ao a.length cap] _ _); refine (crc_any _ a _ (hs.old HV.out) (by omega)).mono ?_; rintro e w' ⟨rfl, t⟩; replace hs := hs.call0 t; clear t)
          | (go_at_call 19; (with_reducible show Calls _ _ #[.slice ao' a.length cap'] _ _); refine (crc_any _ b _ (hs.old HVb.out) (by rw [HL.out]; omega)).mono ?_; rintro e w' ⟨rfl, t⟩; replace hs := hs.call0 t; clear t)
          | (go_at_call 19; (with_reducible show Calls _ _ #[.slice ao'' a.length cap''] _ _); refine (crc_any _ c _ (hs.old HVc.out) (by rw [HL'.out]; omega)).mono ?_; rintro e w' ⟨rfl, t⟩; replace hs := hs.call0 t; clear t))
          go_ret
          exact ⟨rfl, hs.below⟩
        · go_wp2_with (first
          | ((with_reducible show wpList _ _ _ _ _ _); refine wpl_want rfl ?_)
          | (go_at_call 12; refine (first_any _).mono ?_; rintro e w2 ⟨rfl, t⟩; replace hs := hs.call0 t; clear t)
          | (go_at_call 19; (with_reducible show Calls _ _ #[.slice (some ⟨w1.heap.size, 0, none⟩) a.length a.length] _ _); refine (crc_any _ (xor3 a b c) _ (hs.sl0) (by rw [HXL.out]; omega)).mono ?_; rintro e w' ⟨rfl, t⟩; replace hs := hs.call0 t; clear t)
          | (go_at_call 19; (with_reducible show Calls _ _ #[.slice ao a.length cap] _ _); refine (crc_any _ a _ (hs.old HV.out) (by omega)).mono ?_; rintro e w' ⟨rfl, t⟩; replace hs := hs.call0 t; clear t)
          | (go_at_call 19; (with_reducible show Calls _ _ #[.slice ao' a.length cap'] _ _); refine (crc_any _ b _ (hs.old HVb.out) (by rw [HL.out]; omega)).mono ?_; rintro e w' ⟨rfl, t⟩; replace hs := hs.call0 t; clear t)
          | (go_at_call 19; (with_reducible show Calls _ _ #[.slice ao'' a.length cap''] _ _); refine (crc_any _ c _ (hs.old HVc.out) (by rw [HL'.out]; omega)).mono ?_; rintro e w' ⟨rfl, t⟩; replace hs := hs.call0 t; clear t))
          go_ret
          exact ⟨rfl, hs.below⟩
        · go_wp2_with (first
          | ((with_reducible show wpList _ _ _ _ _ _); refine wpl_want rfl ?_)
          | (go_at_call 12; refine (first_any _).mono ?_; rintro e w2 ⟨rfl, t⟩; replace hs := hs.call0 t; clear t)
          | (go_at_call 19; (with_reducible show Calls _ _ #[.slice (some ⟨w1.heap.size, 0, none⟩) a.length a.length] _ _); refine (crc_any _ (xor3 a b c) _ (hs.sl0) (by rw [HXL.out]; omega)).mono ?_; rintro e w' ⟨rfl, t⟩; replace hs := hs.call0 t; clear t)
          | (go_at_call 19; (with_reducible show Calls _ _ #[.slice ao a.length cap] _ _); refine (crc_any _ a _ (hs.old HV.out) (by omega)).mono ?_; rintro e w' ⟨rfl, t⟩; replace hs := hs.call0 t; clear t)
          | (go_at_call 19; (with_reducible show Calls _ _ #[.slice ao' a.length cap'] _ _); refine (crc_any _ b _ (hs.old HVb.out) (by rw [HL.out]; omega)).mono ?_; rintro e w' ⟨rfl, t⟩; replace hs := hs.call0 t; clear t)
          | (go_at_call 19; (with_reducible show Calls _ _ #[.slice ao'' a.length cap''] _ _); refine (crc_any _ c _ (hs.old HVc.out) (by rw [HL'.out]; omega)).mono ?_; rintro e w' ⟨rfl, t⟩; replace hs := hs.call0 t; clear t))
          go_ret
          exact ⟨rfl, hs.below⟩
        · obtain ⟨k, rfl⟩ : ∃ k : Nat, at_ = (k : Int) := ⟨at_.toNat, by have := of_decide_eq_false q1; omega⟩
          have hk : k < a.length := by have := of_decide_eq_false q2; omega
          have hx0 : x ≠ 0 := by rintro rfl; simp at q3
          have hkk : (k : Int) < (a.length : Int) := by omega
          obtain ⟨gt, ct', rfl, g1, g2, g3, g4⟩ := hs.swap.form0 (by omega)
          obtain ⟨y, hy⟩ : ∃ y, a[k] = y := ⟨_, rfl⟩
          have hxy := xor2_u8 y x
          have hLl := hid (turn_len hk (y ^^^ x))
          have hne := turn_crc hk hy hx0
          have hrow := hid (turn_row hk hy x)
          clear g1 g2 g3 g4 hx0
          generalize a.take k ++ [y ^^^ x] ++ a.drop (k + 1) = L at *
          go_wp2_with (first
          | ((with_reducible show wpList _ _ _ _ _ _); refine wpl_want rfl ?_)
          | (go_at_call 19; (with_reducible show Calls _ _ #[.slice (some ⟨w1.heap.size, 0, none⟩) a.length a.length] _ _); refine (crc_any _ (xor3 a b c) _ (hs.sl0) (by rw [HXL.out]; omega)).mono ?_; rintro e w' ⟨rfl, t⟩; replace hs := hs.call0 t; clear t)
          | (go_at_call 19; (with_reducible show Calls _ _ #[.slice ao a.length cap] _ _); refine (crc_any _ a _ (hs.old HV.out) (by omega)).mono ?_; rintro e w' ⟨rfl, t⟩; replace hs := hs.call0 t; clear t)
          | (go_at_call 19; (with_reducible show Calls _ _ #[.slice ao' a.length cap'] _ _); refine (crc_any _ b _ (hs.old HVb.out) (by rw [HL.out]; omega)).mono ?_; rintro e w' ⟨rfl, t⟩; replace hs := hs.call0 t; clear t)
          | (go_at_call 19; (with_reducible show Calls _ _ #[.slice ao'' a.length cap''] _ _); refine (crc_any _ c _ (hs.old HVc.out) (by rw [HL'.out]; omega)).mono ?_; rintro e w' ⟨rfl, t⟩; replace hs := hs.call0 t; clear t; have ct := hs.swap.cell (bs_get hk); rw [hy] at ct)
          | ((with_reducible show wpList _ _ _ _ _ _); refine wpl_store1 rfl 5 _ _ rfl hs.swap k rfl _ rfl rfl (by kernel_rfl) (by rw [bs_len]; omega) rfl ?_; intro w2 hs2; replace hs2 := hs2.cast hLl.out.symm hrow.out; clear ct hs)
          | (go_at_call 12; refine (first_any _).mono ?_; rintro e w2 ⟨rfl, t⟩; replace hs2 := hs2.call0 t; clear t)
          | (go_at_call 19; (with_reducible show Calls _ _ #[.slice (some ⟨gt, 0, none⟩) a.length ct'] _ _); refine (crc_any _ L _ hs2.sl0 (by rw [hLl.out]; omega)).mono ?_; rintro e w' ⟨rfl, t⟩; replace hs2 := hs2.call0 t; clear t)
          | (have := hs2; go_at_call 19; refine (crc_any _ a _ (hs2.old HV.out) (by omega)).mono ?_; rintro e w' ⟨rfl, t⟩; replace hs2 := hs2.call0 t; clear t))
          go_ret
          exact ⟨rfl, hs2.below⟩
  · go_wp2_with fail
    go_loopw [13] (fun y wr => ∃ (i : Nat), i ≤ a.length ∧ y = .int .i64 i ∧ St w wr [⟨.slice (some ⟨w1.heap.size + 1, 0, none⟩) a.length a.length, 5, 1, a.length, bs ((xor3 a b c).take i) ++ C.toList.drop i⟩, ⟨vt, 5, 1, a.length, bs a⟩] []) (fun y _ => a.length - (intOf y).toNat)
    case atStart =>
      have h := (hA.cast (Nat.zero_add _) (List.nil_append _)).swap
      rw [heap_size_alloc] at h
      exact ⟨0, by omega, rfl, h⟩
    case round =>
      obtain ⟨i, hi, rfl, hs⟩ := hrel
      obtain ⟨wo, rfl⟩ : ∃ x : World, x = wr := ⟨_, rfl⟩
      by_cases hlt : i < a.length
      · obtain ⟨rfl, c1⟩ := HC.out i hlt
        obtain ⟨rfl, c2⟩ := HC'.out i (by rw [HL.out]; exact hlt)
        obtain ⟨rfl, c3⟩ := HC''.out i (by rw [HL'.out]; exact hlt)
        have c1 := hs.keep c1
        have c2 := hs.keep c2
        have c3 := hs.keep c3
        obtain ⟨y1, y2, y3, e1, e2, e3, e4⟩ := HG.out i hlt
        rw [List.getElem?_eq_getElem hlt] at e1
        rw [List.getElem?_eq_getElem (by rw [HL.out]; exact hlt)] at e2
        rw [List.getElem?_eq_getElem (by rw [HL'.out]; exact hlt)] at e3
        rw [Option.some.inj e1] at c1
        rw [Option.some.inj e2] at c2
        rw [Option.some.inj e3] at c3
        have hx3 := xor3_u8 y1 y2 y3
        have e4 := hid e4
        clear e1 e2 e3
        have hii : (i : Int) < (a.length : Int) := by omega
        go_wp2_with fail
        go_still_tail 17, (by kernel_rfl)
        have hxl : (bs ((xor3 a b c).take i) ++ C.toList.drop i).length = a.length := by
          rw [List.length_append, bs_len, List.length_take, HXL.out, List.length_drop, HCl.out]; omega
        go_wp2_with ((with_reducible show wpList _ _ _ _ _ _); refine wpl_store1 rfl 5 _ _ rfl hs.drew i rfl _ rfl rfl (by kernel_rfl) (by rw [hxl]; exact hlt) rfl ?_; intro w2 hs2)
        go_roundw
        case rel => exact ⟨i + 1, by omega, by go_num, hs2.cast rfl (crc_row (by rw [HXL.out]; omega) (by rw [HCl.out, HXL.out]) e4.out)⟩
        case measure => simp [intOf]; omega
      · obtain rfl : i = a.length := by omega
        have hs := hs.cast HXL.out.symm (show _ = bs (xor3 a b c) by rw [List.take_of_length_le (by rw [HXL.out]; exact Nat.le_refl _), List.drop_of_length_le (by rw [HCl.out]; exact Nat.le_refl _), List.append_nil])
        obtain ⟨A1, x1, x2⟩ : ∃ A1 : W32, bits BinOp.xor IntKind.u32 ((crcS a).toNat : Int) ((crcS b).toNat : Int) = (A1.toNat : Int) ∧ bits BinOp.xor IntKind.u32 (A1.toNat : Int) ((crcS c).toNat : Int) = ((crcS (xor3 a b c)).toNat : Int) :=
          ⟨crcS a ^^^ crcS b, xor_w _ _, by rw [xor_w, HX.out]⟩
        have hii : decide ((a.length : Int) < (a.length : Int)) = false := decide_eq_false (by omega)
        have hbad : decide (at_ < 0) = true ∨ (decide (at_ < 0) = false ∧ decide ((a.length : Int) ≤ at_) = true) ∨ (decide (at_ < 0) = false ∧ decide ((a.length : Int) ≤ at_) = false ∧ ((x.toNat : Int) == 0) = true) ∨ (decide (at_ < 0) = false ∧ decide ((a.length : Int) ≤ at_) = false ∧ ((x.toNat : Int) == 0) = false) := by
          by_cases q1 : at_ < 0
          · exact .inl (decide_eq_true q1)
          · refine .inr ?_
            by_cases q2 : (a.length : Int) ≤ at_
            · exact .inl ⟨decide_eq_false q1, decide_eq_true q2⟩
            · refine .inr ?_
              cases q3 : ((x.toNat : Int) == 0) with
              | true => exact .inl ⟨decide_eq_false q1, decide_eq_false q2, rfl⟩
              | false => exact .inr ⟨decide_eq_false q1, decide_eq_false q2, rfl⟩
        rcases hbad with q1 | ⟨q1, q2⟩ | ⟨q1, q2, q3⟩ | ⟨q1, q2, q3⟩
        · go_wp2_with (first
          | ((with_reducible show wpList _ _ _ _ _ _); refine wpl_want rfl ?_)
          | (go_at_call 12; refine (first_any _).mono ?_; rintro e w2 ⟨rfl, t⟩; replace hs := hs.call0 t; clear t)
          | (go_at_call 19; (with_reducible show Calls _ _ #[.slice (some ⟨w1.heap.size + 1, 0, none⟩) a.length a.length] _ _); refine (crc_any _ (xor3 a b c) _ (hs.sl0) (by rw [HXL.out]; omega)).mono ?_; rintro e w' ⟨rfl, t⟩; replace hs := hs.call0 t; clear t)
          | (go_at_call 19; (with_reducible show Calls _ _ #[.slice ao a.length cap] _ _); refine (crc_any _ a _ (hs.old HV.out) (by omega)).mono ?_; rintro e w' ⟨rfl, t⟩; replace hs := hs.call0 t; clear t)
          | (go_at_call 19; (with_reducible show Calls _ _ #[.slice ao' a.length cap'] _ _); refine (crc_any _ b _ (hs.old HVb.out) (by rw [HL.out]; omega)).mono ?_; rintro e w' ⟨rfl, t⟩; replace hs := hs.call0 t; clear t)
          | (go_at_call 19; (with_reducible show Calls _ _ #[.slice ao'' a.length cap''] _ _); refine (crc_any _ c _ (hs.old HVc.out) (by rw [HL'.out]; omega)).mono ?_; rintro e w' ⟨rfl, t⟩; replace hs := hs.call0 t; clear t))
          go_ret
          exact ⟨rfl, hs.below⟩
        · go_wp2_with (first
          | ((with_reducible show wpList _ _ _ _ _ _); refine wpl_want rfl ?_)
          | (go_at_call 12; refine (first_any _).mono ?_; rintro e w2 ⟨rfl, t⟩; replace hs := hs.call0 t; clear t)
          | (go_at_call 19; (with_reducible show Calls _ _ #[.slice (some ⟨w1.heap.size + 1, 0, none⟩) a.length a.length] _ _); refine (crc_any _ (xor3 a b c) _ (hs.sl0) (by rw [HXL.out]; omega)).mono ?_; rintro e w' ⟨rfl, t⟩; replace hs := hs.call0 t; clear t)
          | (go_at_call 19; (with_reducible show Calls _ _ #[.slice ao a.length cap] _ _); refine (crc_any _ a _ (hs.old HV.out) (by omega)).mono ?_; rintro e w' ⟨rfl, t⟩; replace hs := hs.call0 t; clear t)
          | (go_at_call 19; (with_reducible show Calls _ _ #[.slice ao' a.length cap'] _ _); refine (crc_any _ b _ (hs.old HVb.out) (by rw [HL.out]; omega)).mono ?_; rintro e w' ⟨rfl, t⟩; replace hs := hs.call0 t; clear t)
          | (go_at_call 19; (with_reducible show Calls _ _ #[.slice ao'' a.length cap''] _ _); refine (crc_any _ c _ (hs.old HVc.out) (by rw [HL'.out]; omega)).mono ?_; rintro e w' ⟨rfl, t⟩; replace hs := hs.call0 t; clear t))
          go_ret
          exact ⟨rfl, hs.below⟩
        · go_wp2_with (first
          | ((with_reducible show wpList _ _ _ _ _ _); refine wpl_want rfl ?_)
          | (go_at_call 12; refine (first_any _).mono ?_; rintro e w2 ⟨rfl, t⟩; replace hs := hs.call0 t; clear t)
          | (go_at_call 19; (with_reducible show Calls _ _ #[.slice (some ⟨w1.heap.size + 1, 0, none⟩) a.length a.length] _ _); refine (crc_any _ (xor3 a b c) _ (hs.sl0) (by rw [HXL.out]; omega)).mono ?_; rintro e w' ⟨rfl, t⟩; replace hs := hs.call0 t; clear t)
          | (go_at_call 19; (with_reducible show Calls _ _ #[.slice ao a.length cap] _ _); refine (crc_any _ a _ (hs.old HV.out) (by omega)).mono ?_; rintro e w' ⟨rfl, t⟩; replace hs := hs.call0 t; clear t)
          | (go_at_call 19; (with_reducible show Calls _ _ #[.slice ao' a.length cap'] _ _); refine (crc_any _ b _ (hs.old HVb.out) (by rw [HL.out]; omega)).mono ?_; rintro e w' ⟨rfl, t⟩; replace hs := hs.call0 t; clear t)
          | (go_at_call 19; (with_reducible show Calls _ _ #[.slice ao'' a.length cap''] _ _); refine (crc_any _ c _ (hs.old HVc.out) (by rw [HL'.out]; omega)).mono ?_; rintro e w' ⟨rfl, t⟩; replace hs := hs.call0 t; clear t))
          go_ret
          exact ⟨rfl, hs.below⟩
        · obtain ⟨k, rfl⟩ : ∃ k : Nat, at_ = (k : Int) := ⟨at_.toNat, by have := of_decide_eq_false q1; omega⟩
          have hk : k < a.length := by have := of_decide_eq_false q2; omega
          have hx0 : x ≠ 0 := by rintro rfl; simp at q3
          have hkk : (k : Int) < (a.length : Int) := by omega
          obtain ⟨gt, ct', rfl, g1, g2, g3, g4⟩ := hs.swap.form0 (by omega)
          obtain ⟨y, hy⟩ : ∃ y, a[k] = y := ⟨_, rfl⟩
          have hxy := xor2_u8 y x
          have hLl := hid (turn_len hk (y ^^^ x))
          have hne := turn_crc hk hy hx0
          have hrow := hid (turn_row hk hy x)
          clear g1 g2 g3 g4 hx0
          generalize a.take k ++ [y ^^^ x] ++ a.drop (k + 1) = L at *
          go_wp2_with (first
          | ((with_reducible show wpList _ _ _ _ _ _); refine wpl_want rfl ?_)
          | (go_at_call 19; (with_reducible show Calls _ _ #[.slice (some ⟨w1.heap.size + 1, 0, none⟩) a.length a.length] _ _); refine (crc_any _ (xor3 a b c) _ (hs.sl0) (by rw [HXL.out]; omega)).mono ?_; rintro e w' ⟨rfl, t⟩; replace hs := hs.call0 t; clear t)
          | (go_at_call 19; (with_reducible show Calls _ _ #[.slice ao a.length cap] _ _); refine (crc_any _ a _ (hs.old HV.out) (by omega)).mono ?_; rintro e w' ⟨rfl, t⟩; replace hs := hs.call0 t; clear t)
          | (go_at_call 19; (with_reducible show Calls _ _ #[.slice ao' a.length cap'] _ _); refine (crc_any _ b _ (hs.old HVb.out) (by rw [HL.out]; omega)).mono ?_; rintro e w' ⟨rfl, t⟩; replace hs := hs.call0 t; clear t)
          | (go_at_call 19; (with_reducible show Calls _ _ #[.slice ao'' a.length cap''] _ _); refine (crc_any _ c _ (hs.old HVc.out) (by rw [HL'.out]; omega)).mono ?_; rintro e w' ⟨rfl, t⟩; replace hs := hs.call0 t; clear t; have ct := hs.swap.cell (bs_get hk); rw [hy] at ct)
          | ((with_reducible show wpList _ _ _ _ _ _); refine wpl_store1 rfl 5 _ _ rfl hs.swap k rfl _ rfl rfl (by kernel_rfl) (by rw [bs_len]; omega) rfl ?_; intro w2 hs2; replace hs2 := hs2.cast hLl.out.symm hrow.out; clear ct hs)
          | (go_at_call 12; refine (first_any _).mono ?_; rintro e w2 ⟨rfl, t⟩; replace hs2 := hs2.call0 t; clear t)
          | (go_at_call 19; (with_reducible show Calls _ _ #[.slice (some ⟨gt, 0, none⟩) a.length ct'] _ _); refine (crc_any _ L _ hs2.sl0 (by rw [hLl.out]; omega)).mono ?_; rintro e w' ⟨rfl, t⟩; replace hs2 := hs2.call0 t; clear t)
          | (have := hs2; go_at_call 19; refine (crc_any _ a _ (hs2.old HV.out) (by omega)).mono ?_; rintro e w' ⟨rfl, t⟩; replace hs2 := hs2.call0 t; clear t))
          go_ret
          exact ⟨rfl, hs2.below⟩
  · go_wp2_with fail
    go_loopw [13] (fun y wr => ∃ (i : Nat), i ≤ a.length ∧ y = .int .i64 i ∧ St w wr [⟨.slice (some ⟨wA.heap.size, 0, none⟩) a.length a.length, 5, 1, a.length, bs ((xor3 a b c).take i) ++ C.toList.drop i⟩, ⟨vt, 5, 1, a.length, bs a⟩] []) (fun y _ => a.length - (intOf y).toNat)
    case atStart =>
      exact ⟨0, by omega, rfl, (hA.cast (Nat.zero_add _) (List.nil_append _)).madeAt C 5 1 a.length _ hsz hmx rfl⟩
    case round =>
      obtain ⟨i, hi, rfl, hs⟩ := hrel
      obtain ⟨wo, rfl⟩ : ∃ x : World, x = wr := ⟨_, rfl⟩
      by_cases hlt : i < a.length
      · obtain ⟨rfl, c1⟩ := HC.out i hlt
        obtain ⟨rfl, c2⟩ := HC'.out i (by rw [HL.out]; exact hlt)
        obtain ⟨rfl, c3⟩ := HC''.out i (by rw [HL'.out]; exact hlt)
        have c1 := hs.keep c1
        have c2 := hs.keep c2
        have c3 := hs.keep c3
        obtain ⟨y1, y2, y3, e1, e2, e3, e4⟩ := HG.out i hlt
        rw [List.getElem?_eq_getElem hlt] at e1
        rw [List.getElem?_eq_getElem (by rw [HL.out]; exact hlt)] at e2
        rw [List.getElem?_eq_getElem (by rw [HL'.out]; exact hlt)] at e3
        rw [Option.some.inj e1] at c1
        rw [Option.some.inj e2] at c2
        rw [Option.some.inj e3] at c3
        have hx3 := xor3_u8 y1 y2 y3
        have e4 := hid e4
        clear e1 e2 e3
        have hii : (i : Int) < (a.length : Int) := by omega
        go_wp2_with fail
        go_still_tail 17, (by kernel_rfl)
        have hxl : (bs ((xor3 a b c).take i) ++ C.toList.drop i).length = a.length := by
          rw [List.length_append, bs_len, List.length_take, HXL.out, List.length_drop, HCl.out]; omega
        go_wp2_with ((with_reducible show wpList _ _ _ _ _ _); refine wpl_store1 rfl 5 _ _ rfl hs.drew i rfl _ rfl rfl (by kernel_rfl) (by rw [hxl]; exact hlt) rfl ?_; intro w2 hs2)
        go_roundw
        case rel => exact ⟨i + 1, by omega, by go_num, hs2.cast rfl (crc_row (by rw [HXL.out]; omega) (by rw [HCl.out, HXL.out]) e4.out)⟩
        case measure => simp [intOf]; omega
      · obtain rfl : i = a.length := by omega
        have hs := hs.cast HXL.out.symm (show _ = bs (xor3 a b c) by rw [List.take_of_length_le (by rw [HXL.out]; exact Nat.le_refl _), List.drop_of_length_le (by rw [HCl.out]; exact Nat.le_refl _), List.append_nil])
        obtain ⟨A1, x1, x2⟩ : ∃ A1 : W32, bits BinOp.xor IntKind.u32 ((crcS a).toNat : Int) ((crcS b).toNat : Int) = (A1.toNat : Int) ∧ bits BinOp.xor IntKind.u32 (A1.toNat : Int) ((crcS c).toNat : Int) = ((crcS (xor3 a b c)).toNat : Int) :=
          ⟨crcS a ^^^ crcS b, xor_w _ _, by rw [xor_w, HX.out]⟩
        have hii : decide ((a.length : Int) < (a.length : Int)) = false := decide_eq_false (by omega)
        have hbad : decide (at_ < 0) = true ∨ (decide (at_ < 0) = false ∧ decide ((a.length : Int) ≤ at_) = true) ∨ (decide (at_ < 0) = false ∧ decide ((a.length : Int) ≤ at_) = false ∧ ((x.toNat : Int) == 0) = true) ∨ (decide (at_ < 0) = false ∧ decide ((a.length : Int) ≤ at_) = false ∧ ((x.toNat : Int) == 0) = false) := by
          by_cases q1 : at_ < 0
          · exact .inl (decide_eq_true q1)
          · refine .inr ?_
            by_cases q2 : (a.length : Int) ≤ at_
            · exact .inl ⟨decide_eq_false q1, decide_eq_true q2⟩
            · refine .inr ?_
              cases q3 : ((x.toNat : Int) == 0) with
              | true => exact .inl ⟨decide_eq_false q1, decide_eq_false q2, rfl⟩
              | false => exact .inr ⟨decide_eq_false q1, decide_eq_false q2, rfl⟩
        rcases hbad with q1 | ⟨q1, q2⟩ | ⟨q1, q2, q3⟩ | ⟨q1, q2, q3⟩
        · go_wp2_with (first
          | ((with_reducible show wpList _ _ _ _ _ _); refine wpl_want rfl ?_)
          | (go_at_call 12; refine (first_any _).mono ?_; rintro e w2 ⟨rfl, t⟩; replace hs := hs.call0 t; clear t)
          | (go_at_call 19; (with_reducible show Calls _ _ #[.slice (some ⟨wA.heap.size, 0, none⟩) a.length a.length] _ _); refine (crc_any _ (xor3 a b c) _ (hs.sl0) (by rw [HXL.out]; omega)).mono ?_; rintro e w' ⟨rfl, t⟩; replace hs := hs.call0 t; clear t)
          | (go_at_call 19; (with_reducible show Calls _ _ #[.slice ao a.length cap] _ _); refine (crc_any _ a _ (hs.old HV.out) (by omega)).mono ?_; rintro e w' ⟨rfl, t⟩; replace hs := hs.call0 t; clear t)
          | (go_at_call 19; (with_reducible show Calls _ _ #[.slice ao' a.length cap'] _ _); refine (crc_any _ b _ (hs.old HVb.out) (by rw [HL.out]; omega)).mono ?_; rintro e w' ⟨rfl, t⟩; replace hs := hs.call0 t; clear t)
          | (go_at_call 19; (with_reducible show Calls _ _ #[.slice ao'' a.length cap''] _ _); refine (crc_any _ c _ (hs.old HVc.out) (by rw [HL'.out]; omega)).mono ?_; rintro e w' ⟨rfl, t⟩; replace hs := hs.call0 t; clear t))
          go_ret
          exact ⟨rfl, hs.below⟩
        · go_wp2_with (first
          | ((with_reducible show wpList _ _ _ _ _ _); refine wpl_want rfl ?_)
          | (go_at_call 12; refine (first_any _).mono ?_; rintro e w2 ⟨rfl, t⟩; replace hs := hs.call0 t; clear t)
          | (go_at_call 19; (with_reducible show Calls _ _ #[.slice (some ⟨wA.heap.size, 0, none⟩) a.length a.length] _ _); refine (crc_any _ (xor3 a b c) _ (hs.sl0) (by rw [HXL.out]; omega)).mono ?_; rintro e w' ⟨rfl, t⟩; replace hs := hs.call0 t; clear t)
          | (go_at_call 19; (with_reducible show Calls _ _ #[.slice ao a.length cap] _ _); refine (crc_any _ a _ (hs.old HV.out) (by omega)).mono ?_; rintro e w' ⟨rfl, t⟩; replace hs := hs.call0 t; clear t)
          | (go_at_call 19; (with_reducible show Calls _ _ #[.slice ao' a.length cap'] _ _); refine (crc_any _ b _ (hs.old HVb.out) (by rw [HL.out]; omega)).mono ?_; rintro e w' ⟨rfl, t⟩; replace hs := hs.call0 t; clear t)
          | (go_at_call 19; (with_reducible show Calls _ _ #[.slice ao'' a.length cap''] _ _); refine (crc_any _ c _ (hs.old HVc.out) (by rw [HL'.out]; omega)).mono ?_; rintro e w' ⟨rfl, t⟩; replace hs := hs.call0 t; clear t))
          go_ret
          exact ⟨rfl, hs.below⟩
        · go_wp2_with (first
          | ((with_reducible show wpList _ _ _ _ _ _); refine wpl_want rfl ?_)
          | (go_at_call 12; refine (first_any _).mono ?_; rintro e w2 ⟨rfl, t⟩; replace hs := hs.call0 t; clear t)
          | (go_at_call 19; (with_reducible show Calls _ _ #[.slice (some ⟨wA.heap.size, 0, none⟩) a.length a.length] _ _); refine (crc_any _ (xor3 a b c) _ (hs.sl0) (by rw [HXL.out]; omega)).mono ?_; rintro e w' ⟨rfl, t⟩; replace hs := hs.call0 t; clear t)
          | (go_at_call 19; (with_reducible show Calls _ _ #[.slice ao a.length cap] _ _); refine (crc_any _ a _ (hs.old HV.out) (by omega)).mono ?_; rintro e w' ⟨rfl, t⟩; replace hs := hs.call0 t; clear t)
          | (go_at_call 19; (with_reducible show Calls _ _ #[.slice ao' a.length cap'] _ _); refine (crc_any _ b _ (hs.old HVb.out) (by rw [HL.out]; omega)).mono ?_; rintro e w' ⟨rfl, t⟩; replace hs := hs.call0 t; clear t)
          | (go_at_call 19; (with_reducible show Calls _ _ #[.slice ao'' a.length cap''] _ _); refine (crc_any _ c _ (hs.old HVc.out) (by rw [HL'.out]; omega)).mono ?_; rintro e w' ⟨rfl, t⟩; replace hs := hs.call0 t; clear t))
          go_ret
          exact ⟨rfl, hs.below⟩
        · obtain ⟨k, rfl⟩ : ∃ k : Nat, at_ = (k : Int) := ⟨at_.toNat, by have := of_decide_eq_false q1; omega⟩
          have hk : k < a.length := by have := of_decide_eq_false q2; omega
          have hx0 : x ≠ 0 := by rintro rfl; simp at q3
          have hkk : (k : Int) < (a.length : Int) := by omega
          obtain ⟨gt, ct', rfl, g1, g2, g3, g4⟩ := hs.swap.form0 (by omega)
          obtain ⟨y, hy⟩ : ∃ y, a[k] = y := ⟨_, rfl⟩
          have hxy := xor2_u8 y x
          have hLl := hid (turn_len hk (y ^^^ x))
          have hne := turn_crc hk hy hx0
          have hrow := hid (turn_row hk hy x)
          clear g1 g2 g3 g4 hx0
          generalize a.take k ++ [y ^^^ x] ++ a.drop (k + 1) = L at *
          go_wp2_with (first
          | ((with_reducible show wpList _ _ _ _ _ _); refine wpl_want rfl ?_)
          | (go_at_call 19; (with_reducible show Calls _ _ #[.slice (some ⟨wA.heap.size, 0, none⟩) a.length a.length] _ _); refine (crc_any _ (xor3 a b c) _ (hs.sl0) (by rw [HXL.out]; omega)).mono ?_; rintro e w' ⟨rfl, t⟩; replace hs := hs.call0 t; clear t)
          | (go_at_call 19; (with_reducible show Calls _ _ #[.slice ao a.length cap] _ _); refine (crc_any _ a _ (hs.old HV.out) (by omega)).mono ?_; rintro e w' ⟨rfl, t⟩; replace hs := hs.call0 t; clear t)
          | (go_at_call 19; (with_reducible show Calls _ _ #[.slice ao' a.length cap'] _ _); refine (crc_any _ b _ (hs.old HVb.out) (by rw [HL.out]; omega)).mono ?_; rintro e w' ⟨rfl, t⟩; replace hs := hs.call0 t; clear t)
          | (go_at_call 19; (with_reducible show Calls _ _ #[.slice ao'' a.length cap''] _ _); refine (crc_any _ c _ (hs.old HVc.out) (by rw [HL'.out]; omega)).mono ?_; rintro e w' ⟨rfl, t⟩; replace hs := hs.call0 t; clear t; have ct := hs.swap.cell (bs_get hk); rw [hy] at ct)
          | ((with_reducible show wpList _ _ _ _ _ _); refine wpl_store1 rfl 5 _ _ rfl hs.swap k rfl _ rfl rfl (by kernel_rfl) (by rw [bs_len]; omega) rfl ?_; intro w2 hs2; replace hs2 := hs2.cast hLl.out.symm hrow.out; clear ct hs)
          | (go_at_call 12; refine (first_any _).mono ?_; rintro e w2 ⟨rfl, t⟩; replace hs2 := hs2.call0 t; clear t)
          | (go_at_call 19; (with_reducible show Calls _ _ #[.slice (some ⟨gt, 0, none⟩) a.length ct'] _ _); refine (crc_any _ L _ hs2.sl0 (by rw [hLl.out]; omega)).mono ?_; rintro e w' ⟨rfl, t⟩; replace hs2 := hs2.call0 t; clear t)
          | (have := hs2; go_at_call 19; refine (crc_any _ a _ (hs2.old HV.out) (by omega)).mono ?_; rintro e w' ⟨rfl, t⟩; replace hs2 := hs2.call0 t; clear t))
          go_ret
          exact ⟨rfl, hs2.below⟩
end Go.Proofs.Ytdalcdgkigkbbaa
