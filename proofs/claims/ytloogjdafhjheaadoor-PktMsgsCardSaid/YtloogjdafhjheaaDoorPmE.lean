/- Walk of pkt.Encode. -/
import Derived.Test.YtloogjdafhjheaaDoorPmB
namespace Go.Mx
open Go Go.RowKit
theorem Sl.cellP {w : World} {b off n cap size : Nat} {xs : List Value} (h : Sl w size (.slice (some ⟨b, off, none⟩) n cap) n xs) {j : Nat} {u : Value} (hj : xs[j]? = some u) : w.cell? ⟨b, off + j, none⟩ = some u := by
  obtain ⟨ao, cap', he, _, _, _, _, h5⟩ := h
  cases he
  obtain ⟨a, ha, h6⟩ := h5 j u hj
  cases ha
  rwa [Addr.add_lit] at h6
theorem linesL_app (l r : List (List UInt8)) : linesL (l ++ r) = linesL l ++ linesL r := by simp [linesL]
theorem linesL_one (p : List UInt8) : linesL [p] = lineL p := by simp [linesL]
theorem linesL_le : ∀ {l : List (List UInt8)}, (∀ p ∈ l, p.length ≤ 1000) → (linesL l).length ≤ 1004 * l.length
  | [], _ => by simp [linesL]
  | p :: l, h => by
    have h1 := linesL_le (l := l) (fun q hq => h q (List.mem_cons_of_mem _ hq))
    have h2 := h p (List.mem_cons_self ..)
    have h3 : linesL (p :: l) = lineL p ++ linesL l := by simp [linesL]
    rw [h3, List.length_append, lineL_len, List.length_cons]
    omega
theorem pieces_1000 {m : Ms} (h : mayM m = true) : ∀ p ∈ piecesM m, p.length ≤ 1000 := by
  have hh := head_len h
  unfold mayM at h
  simp only [Bool.and_eq_true, decide_eq_true_eq] at h
  intro p hp
  unfold piecesM at hp
  rcases List.mem_cons.1 hp with rfl | hp
  · omega
  · rcases List.mem_append.1 hp with hp | hp
    · obtain ⟨s, hs, rfl⟩ := List.mem_map.1 hp
      have := valid_len (List.all_eq_true.1 h.1.1.2 s hs)
      unfold bL
      rw [Array.length_toList]
      have h2 : s.size = s.data.size := rfl
      omega
    · simp at hp
      rcases hp with rfl | rfl
      · simp
      · omega
theorem may_ids {m : Ms} (h : mayM m = true) : m.ids.length ≤ 64 := by
  unfold mayM at h
  simp only [Bool.and_eq_true, decide_eq_true_eq] at h
  exact h.1.2
def numsM (m : Ms) : List Int := [m.kind, m.seq, m.n, m.m]
theorem nums_ok {m : Ms} (h : mayM m = true) : ∀ (i : Nat) (hi : i < (numsM m).length), okN (numsM m)[i] = true := by
  obtain ⟨h1, h2, h3, h4⟩ := kind_ok h
  intro i hi
  have hi4 : i < 4 := hi
  match i, hi4 with
  | 0, _ => exact h1
  | 1, _ => exact h2
  | 2, _ => exact h3
  | 3, _ => exact h4
theorem okN_b {x : Int} (h : okN x = true) : 0 ≤ x ∧ x ≤ 1073741824 := of_decide_eq_true h
end Go.Mx
namespace Go.Proofs.YtloogjdafhjheaaDoor
open Go.RowKit Go.Mx
def EncP (m : Ms) (w : World) (e : Ending) (w' : World) : Prop :=
  (mayM m = true ∧ ∃ v, e = .returned (.tuple #[v, .int .i64 0]) ∧ St w w' [⟨v, 5, 1, (encM m).length, bs (encM m)⟩] []) ∨
  (mayM m = false ∧ e = .returned (.tuple #[.slice none 0 0, .int .i64 1]) ∧ St w w' [] [])
set_option maxRecDepth 200000 in
set_option maxHeartbeats 4000000 in
theorem encP_any (iv dv : Value) (m : Ms) (w : World) (h : MB w iv dv m) (hz : ∀ x ∈ m.ids, x.size ≤ 140737488355328) (hL : LdP w) :
    Calls Tryd.prog 9 #[MV iv dv m] w (EncP m w) := by
  have HMAY := Mx.hid (fun wx (hs : St w wx [] []) => mayP_any iv dv m wx (h.old hs) hz)
  have HL := Mx.hid (fun wx (hs : St w wx [] []) => hL.keep hs)
  have HZ := Mx.hid hz
  have hi := h.i
  have hd := h.d
  obtain ⟨M, hMe⟩ : ∃ M, M = m := ⟨_, rfl⟩
  rw [← hMe]
  rw [← hMe] at HMAY HZ
  obtain ⟨kind, seq, n, mm, ids, data⟩ := m
  simp only [] at hi hd
  obtain ⟨io, ic, blk, off, rfl, i1, i2, _, hic⟩ := hi.txt
  have HD := Mx.hid hd
  obtain ⟨dq, dc, rfl, d1, d2, -⟩ := hd.form
  have HC := Mx.hid hic
  unfold maxLen at d2
  have HME := Mx.hid hMe
  have hE : Hid (MV (.slice io ids.length ic) (.slice dq data.length dc) M = .agg ([.int .i64 kind, .int .i64 seq, .int .i64 n, .int .i64 mm, .slice io ids.length ic, .slice dq data.length dc]).toArray) := by
    show _ = _
    rw [hMe]
    rfl
  rw [hE.out] at HMAY ⊢
  clear h hz hi hd hic hL hMe
  generalize hb : mayM M = b at *
  have HB := Mx.hid hb
  clear hb
  go_enter Tryd.func9, Tryd.ntmps9
  go_upto_region 1 with (((with_reducible show wpList _ _ _ _ _ _); refine wpl_box rfl 25 _ rfl (St.refl w) ([.int .i64 kind, .int .i64 seq, .int .i64 n, .int .i64 mm, .slice io ids.length ic, .slice dq data.length dc]) (by rfl) ?_; intro gx wx hsx))
  go_wp2_with ((with_reducible show wpList _ _ _ _ _ _); refine wpl_loadA rfl 25 _ rfl Tryd.aMsg (gx) (0) rfl ([.int .i64 kind, .int .i64 seq, .int .i64 n, .int .i64 mm, .slice io ids.length ic, .slice dq data.length dc]) rfl (VCof hsx (List.mem_cons_self ..)) ?_)
  refine (HMAY.out _ hsx.bare).mono ?_
  rintro e w1 ⟨rfl, hk⟩
  have hs1 := hsx.call0 hk
  clear hsx hk HMAY
  cases b with
  | false =>
    go_wp2_with fail
    go_ret2
    exact .inr ⟨HB.out, rfl, hs1.bare⟩
  | true =>
  have x0 := hs1.cell (j := 0) rfl
  have x1 := hs1.cell (j := 1) rfl
  have x2 := hs1.cell (j := 2) rfl
  have x3 := hs1.cell (j := 3) rfl
  go_wp2_with fail
  have hn := (hs1.made #[.int .i64 kind, .int .i64 seq, .int .i64 n, .int .i64 mm] 3 1 4 rfl (by simp [maxLen])).freeze
  dsimp only at hn
  generalize w1.alloc (.cells #[.int .i64 kind, .int .i64 seq, .int .i64 n, .int .i64 mm] 3) = w2 at hn ⊢
  generalize w1.heap.size = gn at hn ⊢
  clear hs1 x0 x1 x2 x3
  have HNU : Hid ([.int .i64 kind, .int .i64 seq, .int .i64 n, .int .i64 mm] = is (numsM M)) := by
    show _ = _
    rw [HME.out]
    rfl
  have HNL : Hid ((numsM M).length = 4) := rfl
  rw [HNU.out] at hn
  go_loopw [4, 28] (fun x y wr => ∃ (i : Nat), i ≤ 4 ∧ y = .int .i64 i ∧ St w wr [⟨x, 9, 1, i, ss (((numsM M).take i).map fun z => str (Lib.itoa z))⟩, (⟨.slice (some ⟨gx, 0, none⟩) 1 1, 25, 6, 1, [.int .i64 kind, .int .i64 seq, .int .i64 n, .int .i64 mm, .slice io ids.length ic, .slice dq data.length dc]⟩ : Row)] [⟨.slice (some ⟨gn, 0, none⟩) 4 4, 1, 4, is (numsM M)⟩]) (fun _ y _ => 4 - (intOf y).toNat)
  case atStart => exact ⟨0, by omega, rfl, hn.addNil _ _⟩
  case round =>
    clear hn
    obtain ⟨i, hi4, rfl, hs⟩ := hrel
    by_cases hlt : i < 4
    · have hlN : i < (numsM M).length := hlt
      have c0 := Sl.cellP hs.q0 (j := i) (u := .int .i64 (numsM M)[i]) (by rw [is, List.getElem?_map, List.getElem?_eq_getElem hlN]; rfl)
      rw [Nat.zero_add] at c0
      have hz := okN_b (nums_ok HB.out i hlN)
      have HTK := Mx.hid (show ss (((numsM M).take (i + 1)).map fun z => str (Lib.itoa z)) = ss (((numsM M).take i).map fun z => str (Lib.itoa z)) ++ [.string (str (Lib.itoa (numsM M)[i]))] by
        rw [List.take_succ_eq_append_getElem hlN, List.map_append, ss_app]
        rfl)
      have HIT := Mx.hid (fun wx (h : St w wx [] []) => itoa_any (numsM M)[i] wx (HL.out wx h) (by omega) (by omega))
      clear hz
      generalize (numsM M)[i] = z at *
      have hii : (i : Int) < 4 := by omega
      go_wp2_with fail
      refine (HIT.out _ hs.bare).mono ?_
      rintro e w3 ⟨rfl, hk3⟩
      have hs3 := hs.call0 hk3
      go_wp2_with (at_builtin; refine wpl_app rfl _ _ 22 rfl Tryd.elStr (hs3.alloc _) rfl (by exact Sl.one _ _ _) (by intro u hu; simp at hu; subst hu; rfl) (by omega) ?_; intro v4 w4 hs4 _)
      exact ⟨⟨i + 1, by omega, by go_num, hs4.cast rfl HTK.out.symm⟩, by simp [intOf]; omega⟩
    · obtain rfl : i = 4 := by omega
      have hsl : Sl wr 1 _ 4 (ss [str (Lib.itoa M.kind), str (Lib.itoa M.seq), str (Lib.itoa M.n), str (Lib.itoa M.m)]) := hs.sl0
      have hlens : (Lib.itoa M.kind).length + (Lib.itoa M.seq).length + (Lib.itoa M.n).length + (Lib.itoa M.m).length ≤ 1000 := by
        obtain ⟨k1, k2, k3, k4⟩ := kind_ok HB.out
        have a1 := itoa_len k1; have a2 := itoa_len k2; have a3 := itoa_len k3; have a4 := itoa_len k4
        omega
      have HJ := Mx.hid (joinH_any _ _ _ _ _ wr hsl hlens)
      have HHD : Hid (Lib.itoa M.kind ++ 32 :: (Lib.itoa M.seq ++ 32 :: (Lib.itoa M.n ++ 32 :: Lib.itoa M.m)) = headL M) := rfl
      rw [HHD.out] at HJ
      have hhl := head_len HB.out
      have hs' := hs.tail.noQ
      clear hlens hsl hs HHD
      go_wp2_with fail
      refine HJ.out.mono ?_
      rintro e w3 ⟨rfl, hk3⟩
      have hs3 := hs'.call0 hk3
      have HPC : Hid (piecesM M = headL M :: (M.ids.map bL ++ [[], M.data])) := rfl
      have HID : Hid (M.ids = ids ∧ M.data = data) := by
        show _ ∧ _
        rw [HME.out]
        exact ⟨rfl, rfl⟩
      rw [HID.out.1, HID.out.2] at HPC
      have hids := may_ids HB.out
      rw [HID.out.1] at hids
      have hsz : (str (headL M)).size ≤ 60 := by rw [str_size]; exact hhl
      have HSD := Mx.hid (str_data (headL M))
      have HSS := Mx.hid (str_size (headL M))
      generalize headL M = hd at *
      generalize str hd = sd at *
      clear hs' hk3
      go_wp2_with (first | (((with_reducible show wpList _ _ _ _ _ _); refine wpl_s2b rfl 9 23 5 _ rfl Tryd.underlying9 Tryd.underlying23 Tryd.underlying5 hs3 rfl (by unfold maxLen; omega) ?_; intro v4 w4 hs4); obtain ⟨pa, pc, rfl, _⟩ := id hs4.sl0) | (((with_reducible show wpList _ _ _ _ _ _); refine wpl_lit1 rfl 43 _ rfl Tryd.elBs hs4 (.slice pa sd.size pc) (by rfl) (by rfl) ?_; intro gl w5 hs5); have x4 : w5.cell? ⟨gx, 4, none⟩ = some (.slice io ids.length ic) := hs5.rcell (List.mem_cons_of_mem _ (List.mem_cons_of_mem _ (List.mem_cons_self ..))) (j := 4) rfl))
      have hs6 := hs5.swap.freeze
      dsimp only at hs6
      rw [HSS.out, HSD.out] at hs6
      clear hs5 hs4 x4
      go_loopw [7, 45] (fun x y wr => ∃ (i : Nat) (vs : List Value), i ≤ ids.length ∧ y = .int .i64 i ∧ Hid (vs.length = (hd :: (ids.take i).map bL).length) ∧ St w wr [⟨x, 23, 1, i + 1, vs⟩, (⟨.slice (some ⟨gx, 0, none⟩) 1 1, 25, 6, 1, [.int .i64 kind, .int .i64 seq, .int .i64 n, .int .i64 mm, .slice io ids.length ic, .slice dq data.length dc]⟩ : Row)] (rds vs (hd :: (ids.take i).map bL))) (fun _ y _ => ids.length - (intOf y).toNat)
      case atStart => exact ⟨0, [.slice pa hd.length pc], by omega, rfl, rfl, hs6⟩
      case round =>
        clear hs6
        obtain ⟨i, vs, hi, rfl, HVS, hs⟩ := hrel
        have x5 : wr.cell? ⟨gx, 5, none⟩ = some (.slice dq data.length dc) := hs.rcell (List.mem_cons_of_mem _ (List.mem_cons_self ..)) (j := 5) rfl
        by_cases hlt : i < ids.length
        · obtain ⟨rfl, c0⟩ := HC.out i hlt
          replace c0 := hs.keep c0
          have hsz2 := HZ.out ids[i] (by rw [HID.out.1]; exact List.getElem_mem hlt)
          have HTK := Mx.hid (show (ids.take (i + 1)).map bL = (ids.take i).map bL ++ [bL ids[i]] by rw [List.take_succ_eq_append_getElem hlt, List.map_append]; rfl)
          have HBL : Hid ((bL ids[i]).length = ids[i].size) := by
            show _ = _
            unfold bL
            exact Array.length_toList
          have HBD : Hid (ids[i].data.toList = bL ids[i]) := rfl
          have hii : (i : Int) < (ids.length : Int) := by omega
          generalize ids[i] = s at *
          go_wp2_with (first | (((with_reducible show wpList _ _ _ _ _ _); refine wpl_s2b rfl 9 23 5 _ rfl Tryd.underlying9 Tryd.underlying23 Tryd.underlying5 hs rfl (by unfold maxLen; omega) ?_; intro v4 w4 hs4); obtain ⟨qa, qc, rfl, _⟩ := id hs4.sl0; have hs5 := hs4.freeze; dsimp only at hs5) | (at_builtin; refine wpl_app rfl _ _ 43 rfl Tryd.elBs (hs5.alloc _) rfl (by exact Sl.one _ _ _) (by intro u hu; simp at hu; subst hu; rfl) (by omega) ?_; intro v6 w6 hs6 _))
          rw [HBD.out, ← HBL.out] at hs6
          refine ⟨⟨i + 1, vs ++ [.slice qa (bL s).length qc], by omega, by go_num, ?_, ?_⟩, by simp [intOf]; omega⟩
          · show _ = _
            rw [HTK.out, List.length_append, HVS.out]
            simp
          · rw [HTK.out, show hd :: ((ids.take i).map bL ++ [bL s]) = (hd :: (ids.take i).map bL) ++ [bL s] from rfl, rds_snoc _ _ _ _ HVS.out]
            exact hs6.sub (List.Sublist.refl _) (fun q hq => by
              rcases List.mem_append.1 hq with h | h
              · exact List.mem_cons_of_mem _ h
              · rw [List.mem_singleton.1 h]; exact List.mem_cons_self ..)
        · obtain rfl : i = ids.length := by omega
          rw [List.take_length] at hs HVS
          have hPL : Hid (ids.length + 1 + 2 = (piecesM M).length) := by
            show _ = _
            rw [HPC.out]
            simp
          have HPCL : Hid (piecesM M = (hd :: ids.map bL ++ [[]]) ++ [data]) := by
            show _ = _
            rw [HPC.out]
            simp
          clear hi
          go_wp2_with (at_builtin; refine wpl_app rfl _ _ 43 rfl Tryd.elBs (hs.alloc _) rfl (by exact ((St.refl _).made #[.slice none 0 0, .slice dq data.length dc] 23 1 2 rfl (by simp [maxLen])).sl0) (by intro u hu; simp at hu; rcases hu with rfl | rfl <;> rfl) (by omega) ?_; intro v6 w6 hs6 _; replace hs6 := hs6.cast hPL.out rfl; obtain ⟨xa, xc, rfl, _⟩ := id hs6.sl0)
          have hLL : LL w6 (.slice xa (piecesM M).length xc) (piecesM M) := by
            have hvl : (vs ++ [Value.slice none 0 0]).length = (hd :: ids.map bL ++ [[]]).length := by rw [List.length_append, HVS.out]; simp
            refine ⟨(vs ++ [.slice none 0 0]) ++ [.slice dq data.length dc], ?_, ?_, ?_⟩
            · rw [HPCL.out, List.length_append, hvl]
              simp
            · have := hs6.sl0
              rw [List.append_assoc]
              exact this
            · intro q hq
              rw [HPCL.out, rds_snoc _ _ _ _ hvl, rds_snoc _ _ _ _ HVS.out] at hq
              rcases List.mem_append.1 hq with hq | hq
              · rcases List.mem_append.1 hq with hq | hq
                · exact hs6.rd q hq
                · rw [List.mem_singleton.1 hq]; exact Sl.nil _ _
              · rw [List.mem_singleton.1 hq]; exact hs6.old HD.out
          have HK6 := Mx.hid hs6.bare
          obtain ⟨_, _, blk3, off3, us, hv3, g1, g2, hcc, hss⟩ := hLL.at
          cases hv3
          have HCC := Mx.hid (fun k hk => (⟨(hcc k hk).1, (hcc k hk).2⟩ : xa = some ⟨blk3, off3, none⟩ ∧ w6.cell? ⟨blk3, off3 + k, none⟩ = some (us k)))
          have HSL := Mx.hid hss
          have HP1 := Mx.hid (pieces_1000 HB.out)
          have hL67 : (piecesM M).length ≤ 67 := by rw [← hPL.out]; omega
          have HBO : Hid (bodyM M = linesL (piecesM M) ++ [48, 48, 48, 48]) := rfl
          clear hLL hcc hss hs6 hs hPL HPC HPCL HVS x5
          generalize piecesM M = L at *
          go_wp2_with fail
          go_loopw [10, 61] (fun b y wr => ∃ (i : Nat), i ≤ L.length ∧ y = .int .i64 i ∧ St w6 wr [⟨b, 5, 1, (linesL (L.take i)).length, bs (linesL (L.take i))⟩] []) (fun _ y _ => L.length - (intOf y).toNat)
          case atStart => exact ⟨0, by omega, rfl, St.nil _ _ _⟩
          case round =>
            obtain ⟨i, hi, rfl, hs⟩ := hrel
            have hle := linesL_le (l := L.take i) (fun p hp => HP1.out p (List.mem_of_mem_take hp))
            have hln : (L.take i).length ≤ 67 := by rw [List.length_take]; omega
            by_cases hlt : i < L.length
            · obtain ⟨rfl, c0⟩ := HCC.out i hlt
              have hx := HSL.out i hlt
              obtain ⟨ua, uc, hu, -⟩ := hx.form
              rw [hu] at c0 hx
              replace c0 := hs.keep c0
              have hp1 := HP1.out L[i] (List.getElem_mem hlt)
              have HLN := Mx.hid (Line_any _ L[i] wr (hs.old hx) (by omega))
              have HTK := Mx.hid (show linesL (L.take (i + 1)) = linesL (L.take i) ++ lineL L[i] by rw [List.take_succ_eq_append_getElem hlt, linesL_app, linesL_one])
              have HLL := Mx.hid (lineL_len L[i])
              unfold LinePost lineV lineE at HLN
              rw [if_neg (by omega), if_neg (by omega)] at HLN
              have hii : (i : Int) < (L.length : Int) := by omega
              clear hx hu
              generalize L[i] = p at *
              go_wp2_with fail
              refine HLN.out.mono ?_
              rintro e w7 ⟨v7, rfl, hk7⟩
              have hs7 := (hs.call1 hk7).swap
              obtain ⟨la, lc, rfl, _⟩ := id hk7.sl0
              have hll : (lineL p).length ≤ 1004 := by rw [HLL.out]; omega
              clear hs hk7 HLN
              generalize linesL (L.take i) = acc at *
              generalize lineL p = lp at *
              go_wp2_with (at_builtin; refine wpl_app rfl _ _ 23 rfl Tryd.elU8 hs7 rfl (by exact hs7.sl1) (bs_one _) (by omega) ?_; intro v8 w8 hs8 _)
              exact ⟨⟨i + 1, by omega, by go_num, hs8.head.cast (by rw [HTK.out, List.length_append]) (by rw [HTK.out, bs_app])⟩, by simp [intOf]; omega⟩
            · obtain rfl : i = L.length := by omega
              rw [List.take_length] at hs hle
              generalize hll : linesL L = B at *
              have HLLB := Mx.hid hll
              have HBN := Mx.hid (show (bodyM M).length = B.length + 4 by rw [HBO.out]; simp)
              clear hll
              go_wp2_with (at_builtin; refine wpl_app_str rfl _ _ 23 9 rfl Tryd.elU8 Tryd.underlying9 hs rfl rfl (by show (B.length + 4) * 1 ≤ _; omega) ?_; intro v8 w8 hs8 _; replace hs8 := hs8.cast (show _ = (bodyM M).length by rw [HBN.out]; try rfl) (show _ = bs (bodyM M) by rw [HBO.out, bs_app]; try rfl); obtain ⟨ba, bc, rfl, _⟩ := id hs8.sl0)
              have HEN : Hid (encM M = bodyM M ++ fourL (crcS (bodyM M))) := rfl
              have hbl : (bodyM M).length ≤ 100000 := by rw [HBN.out]; omega
              clear HBO HBN HLLB
              generalize bodyM M = BM at *
              refine (sum_any _ BM w8 hs8.sl0 (by omega)).mono ?_
              rintro e w9 ⟨v9, rfl, hk9⟩
              obtain ⟨ca, cc, rfl, _⟩ := id hk9.sl0
              have hs9 := (hs8.call1 hk9).swap
              have HFL := Mx.hid (fourL_len (crcS BM))
              clear hs8 hk9 hs
              generalize fourL (crcS BM) = F at *
              go_wp2_with (at_builtin; refine wpl_app rfl _ _ 23 rfl Tryd.elU8 hs9 rfl (by exact hs9.sl1) (bs_one _) (by omega) ?_; intro v10 w10 hs10 _)
              go_ret2
              exact .inl ⟨HB.out, v10, rfl, HK6.out.call (hs10.head.cast (by rw [HEN.out, List.length_append, HFL.out]) (by rw [HEN.out, bs_app]))⟩
end Go.Proofs.YtloogjdafhjheaaDoor
