/- Walk of the law PktBack. -/
import Derived.Test.YtloogjdafhjheaaDoorPmQ
import Derived.Test.YtloogjdafhjheaaDoorJAPmS
import Derived.Test.YtloogjdafhjheaaDoorPmD
import Derived.Test.YtloogjdafhjheaaDoorJBRowMs
namespace Go.Proofs.YtloogjdafhjheaaDoor
open Go.RowKit Go.Mx
theorem enc_small {m : Ms} (h : mayM m = true) : (encM m).length ≤ 100000 := by
  have h1 := linesL_le (pieces_1000 h)
  have h2 := pieces_len m
  have h3 : m.ids.length ≤ 64 := by
    unfold mayM at h
    simp only [Bool.and_eq_true, decide_eq_true_eq] at h
    omega
  have h4 := (enc_len8 m).1
  have h5 : (bodyM m).length = (linesL (piecesM m)).length + 4 := by unfold bodyM; simp
  rw [h2] at h1
  omega
theorem notm_if : True := trivial
set_option maxRecDepth 200000 in
set_option maxHeartbeats 8000000 in
theorem pktBack_any (v : Value) (l : List (List UInt8)) (w : World) (hv : LL w v l) (hz : ∀ p ∈ l, p.length ≤ 140737488351232) (iv dv : Value) (m : Ms) (hm : MB w iv dv m) (hmz : MZ m) (a : Int) (ha : -9223372036854775808 ≤ a ∧ a ≤ 9223372036854775807) (x : UInt8) (hL : LdP w) :
    Calls Tryd.prog 4 #[v, MV iv dv m, .int .i64 a, .int .u8 (x.toNat : Int)] w fun e w' => e = .returned (.bool true) ∧ Below w.heap.size w w' := by
  have HLL := Mx.hid hv
  obtain ⟨ao, cap, blk, off, us, rfl, h1, h2, hc, hs⟩ := hv.at
  have HC := Mx.hid (fun k hk => (⟨(hc k hk).1, (hc k hk).2⟩ : ao = some ⟨blk, off, none⟩ ∧ w.cell? ⟨blk, off + k, none⟩ = some (us k)))
  have HS := Mx.hid hs
  have HZ := Mx.hid (fun (k : Nat) (hk : k < l.length) => hz l[k] (List.getElem_mem hk))
  have HENC := Mx.hid (fun wx (h : St w wx [] []) => encP_any iv dv m wx (hm.old h) (fun x hx => by have := hmz.i x hx; omega) (hL.keep h))
  have HMAY := Mx.hid (fun wx (h : St w wx [] []) => mayP_any iv dv m wx (hm.old h) (fun x hx => by have := hmz.i x hx; omega))
  have HFEW := Mx.hid (fun wx (h : St w wx [] []) => few_any iv dv m wx (hm.old h))
  have HSAME := Mx.hid (fun wx (h : St w wx [] []) iv' dv' (hb : MB wx iv' dv' m) => (sameP_any iv' dv' iv dv m m wx hb (hm.old h)).mono fun e w' h => (⟨by rw [h.1, decide_eq_true rfl], h.2⟩ : e = .returned (.bool true) ∧ St wx w' [] []))
  have HL := Mx.hid (fun wx (h : St w wx [] []) => hL.keep h)
  obtain ⟨M, hM⟩ : ∃ M, M = m := ⟨_, rfl⟩
  rw [← hM] at HENC HMAY HFEW HSAME ⊢
  have hE : ∃ kind seq n mm, ∀ iv dv, MV iv dv M = .agg #[.int .i64 kind, .int .i64 seq, .int .i64 n, .int .i64 mm, iv, dv] := ⟨_, _, _, _, fun _ _ => rfl⟩
  obtain ⟨kind, seq, n, mm, hE⟩ := hE
  have HE := Mx.hid hE
  rw [hE] at HENC HMAY HFEW ⊢
  simp only [hE] at HSAME
  clear hv hc hs hz hm hmz hL hM hE
  go_enter Tryd.func4, Tryd.ntmps4
  go_upto_region 1 with (((with_reducible show wpList _ _ _ _ _ _); refine wpl_box rfl 25 _ rfl (St.refl w) ([.int .i64 kind, .int .i64 seq, .int .i64 n, .int .i64 mm, iv, dv]) (by rfl) ?_; intro gx wx hsx))
  go_wp2_with fail
  refine (firstPkt_any _).mono ?_
  rintro e w1 ⟨rfl, hk⟩
  have hs0 := hsx.call0 hk
  clear hsx hk
  go_wp2_with fail
  go_loop [9, 10] (fun xx y => ∃ (n' : Int) (i : Nat), xx = .int .i64 n' ∧ 0 ≤ n' ∧ n' ≤ 40000 ∧ i ≤ l.length ∧ i ≤ 60 ∧ y = .int .i64 i ∧ Hid (n' ≤ 20000 → ∀ p ∈ l.take i, p.length ≤ 20000)) (fun _ y => l.length - (intOf y).toNat)
  case atStart => exact ⟨0, 0, rfl, by omega, by omega, by omega, by omega, rfl, fun _ => by simp⟩
  case round =>
    obtain ⟨n', i, rfl, hn0, hn1, hi, hi6, rfl, HA⟩ := hrel
    by_cases hlt : i < l.length ∧ i < 60
    · obtain ⟨hlt, hlt6⟩ := hlt
      obtain ⟨rfl, c0⟩ := HC.out i hlt
      have hx := HS.out i hlt
      have hzl := HZ.out i hlt
      obtain ⟨xo, xc, hu, xl, xm, _⟩ := id hx
      replace c0 := hs0.keep c0
      rw [hu] at c0
      have HTA := Mx.hid (fun (h : n' ≤ 20000) (h2 : l[i].length ≤ 20000) => (show ∀ x ∈ l.take (i + 1), x.length ≤ 20000 by
        rw [List.take_succ_eq_append_getElem hlt]
        intro x hx
        rcases List.mem_append.1 hx with hx | hx
        · exact HA.out h x hx
        · rw [List.mem_singleton.1 hx]; exact h2))
      have q1 : decide ((i : Int) < 60) = true := decide_eq_true (by omega)
      unfold maxLen at xm
      clear hx hu
      generalize l[i].length = z at *
      go_wp2_with (first | ((with_reducible show wpList _ _ _ _ _ _); refine wpl_want rfl ?_))
      all_goals exact ⟨⟨_, i + 1, rfl, by omega, by omega, by omega, by omega, by go_num, fun h => HTA.out (by omega) (by omega)⟩, by simp [intOf]; omega⟩
    · by_cases hp : i < l.length
      · have q1 : decide ((i : Int) < 60) = false := decide_eq_false (by omega)
        have q2 : decide ((i : Int) < (l.length : Int)) = true := decide_eq_true (by omega)
        have q5 : decide ((60 : Int) < (l.length : Int)) = true := decide_eq_true (by omega)
        clear hlt hi
        go_wp2_with (first | ((with_reducible show wpList _ _ _ _ _ _); refine wpl_want rfl ?_) | (go_at_call 6; refine (firstPkt_any _).mono ?_; rintro e w2 ⟨rfl, hk2⟩; replace hs0 := hs0.call0 hk2))
        go_ret
        exact ⟨rfl, hs0.below⟩
      obtain rfl : i = l.length := by omega
      rw [List.take_length] at HA
      have q2 : decide ((l.length : Int) < (l.length : Int)) = false := decide_eq_false (by omega)
      have q5 : decide ((60 : Int) < (l.length : Int)) = false := decide_eq_false (by omega)
      by_cases hn : 20000 < n'
      · have q6 : decide ((20000 : Int) < n') = true := decide_eq_true hn
        clear hlt hi
        go_wp2_with (first | ((with_reducible show wpList _ _ _ _ _ _); refine wpl_want rfl ?_) | (go_at_call 6; refine (firstPkt_any _).mono ?_; rintro e w2 ⟨rfl, hk2⟩; replace hs0 := hs0.call0 hk2))
        go_ret
        exact ⟨rfl, hs0.below⟩
      have q6 : decide ((20000 : Int) < n') = false := decide_eq_false hn
      have HP := Mx.hid (HA.out (by omega))
      clear hn hp hi HA
      go_wp2_with (first | ((with_reducible show wpList _ _ _ _ _ _); refine wpl_want rfl ?_) | ((with_reducible show wpList _ _ _ _ _ _); refine wpl_loadA rfl 25 _ rfl Tryd.aMsg (gx) (0) rfl ([.int .i64 kind, .int .i64 seq, .int .i64 n, .int .i64 mm, iv, dv]) rfl (VCof hs0 (List.mem_cons_self ..)) ?_))
      refine (HFEW.out _ hs0.bare).mono ?_
      rintro e w2 ⟨fb, rfl, hk2, hfew⟩
      replace hs0 := hs0.call0 hk2
      clear hk2
      cases fb with
      | false =>
        go_wp2_with (first | ((with_reducible show wpList _ _ _ _ _ _); refine wpl_want rfl ?_) | (go_at_call 6; refine (firstPkt_any _).mono ?_; rintro e w2 ⟨rfl, hk2⟩; replace hs0 := hs0.call0 hk2))
        go_ret
        exact ⟨rfl, hs0.below⟩
      | true =>
      have HF := Mx.hid (hfew rfl)
      clear hfew q2 q5 q6
      go_wp2_with fail
      have hl60 : l.length ≤ 60 := by omega
      go_loopw [11, 12] (fun b y wr => ∃ (i : Nat), i ≤ l.length ∧ y = .int .i64 i ∧ St w wr [⟨b, 5, 1, (linesL (l.take i)).length, bs (linesL (l.take i))⟩, (⟨.slice (some ⟨gx, 0, none⟩) 1 1, 25, 6, 1, [.int .i64 kind, .int .i64 seq, .int .i64 n, .int .i64 mm, iv, dv]⟩ : Row)] []) (fun _ y _ => l.length - (intOf y).toNat)
      case atStart => exact ⟨0, by omega, rfl, hs0.addNil _ _⟩
      case round =>
        clear hs0
        obtain ⟨i, hi, rfl, hs⟩ := hrel
        have hle := linesL_leK 20000 (l := l.take i) (fun p hp => HP.out p (List.mem_of_mem_take hp))
        have hln : (l.take i).length ≤ 60 := by rw [List.length_take]; omega
        by_cases hlt : i < l.length
        · obtain ⟨rfl, c0⟩ := HC.out i hlt
          have hx := HS.out i hlt
          obtain ⟨ua, uc, hu, -⟩ := hx.form
          rw [hu] at c0 hx
          replace c0 := hs.keep c0
          have hp1 := HP.out l[i] (List.getElem_mem hlt)
          have HLN := Mx.hid (Line_any _ l[i] wr (hs.old hx) (by omega))
          have HTK := Mx.hid (linesL_snoc hlt)
          have HLC := Mx.hid (lineL_len l[i])
          unfold LinePost lineV lineE at HLN
          rw [if_neg (by omega), if_neg (by omega), HLC.out] at HLN
          have hii : (i : Int) < (l.length : Int) := by omega
          clear hx hu
          generalize l[i] = p at *
          go_wp2_with fail
          refine HLN.out.mono ?_
          rintro e w7 ⟨v7, rfl, hk7⟩
          have hs7 := (hs.call1 hk7).swap
          replace c0 := hk7.keep c0
          obtain ⟨la, lc, rfl, _⟩ := id hk7.sl0
          have hsl := hs7.sl1
          clear hs hk7 HLN
          generalize linesL (l.take i) = acc at *
          have hacc : acc.length ≤ 1300000 := by omega
          clear hle hln
          go_wp2_with (first | ((with_reducible show wpList _ _ _ _ _ _); refine wpl_want rfl ?_) | (at_builtin; refine wpl_app rfl _ _ 23 rfl Tryd.elU8 hs7 rfl (by exact hsl) (bs_one _) (by omega) ?_; intro v8 w8 hs8 _))
          exact ⟨⟨i + 1, by omega, by go_num, (hs8.sub (List.Sublist.cons_cons _ (List.Sublist.cons _ (List.Sublist.refl _))) fun _ h => h).cast (by rw [HTK.out, List.length_append, HLC.out]) (by rw [HTK.out, bs_app])⟩, by simp [intOf]; omega⟩
        · obtain rfl : i = l.length := by omega
          rw [List.take_length] at hs hle
          have HTO := Mx.hid (told_all l (fun p hp => by have := HP.out p hp; omega))
          have q7 : decide ((l.length : Int) < (l.length : Int)) = false := decide_eq_false (by omega)
          generalize linesL l = B at *
          have hB : B.length ≤ 1300000 := by omega
          obtain ⟨ba, bc, rfl, -⟩ := id hs.sl0
          clear hi hlt hle hln
          go_wp2_with (first | ((with_reducible show wpList _ _ _ _ _ _); refine wpl_want rfl ?_))
          refine (copyBytes_any _ B wr hs.sl0 (by omega)).mono ?_
          rintro e w3 ⟨v3, rfl, hk3⟩
          have hs3 := hs.call1 hk3
          clear hs hk3
          obtain ⟨va3, vc3, rfl, -⟩ := id hs3.sl0
          go_wp2_with (at_builtin; refine wpl_app_str rfl _ _ 23 9 rfl Tryd.elU8 Tryd.underlying9 hs3 rfl rfl (by show (B.length + 6) * 1 ≤ _; omega) ?_; intro v4 w4 hs4 _; replace hs4 := hs4.cast (show _ = (B ++ [48, 48, 48, 48, 122, 122]).length by rw [List.length_append]; try rfl) (show _ = bs (B ++ [48, 48, 48, 48, 122, 122]) by rw [bs_app]; try rfl))
          have HLN := Mx.hid (Lines_any v4 (B ++ [48, 48, 48, 48, 122, 122]) w4 hs4.sl0 (by simp; omega))
          unfold LinesPost at HLN
          rw [HTO.out] at HLN
          simp only [] at HLN
          rw [show ((B.length + 4 : Nat) : Int) = (B.length : Int) + 4 by omega] at HLN
          refine HLN.out.mono ?_
          rintro e w5 ⟨v5, rfl, hk5, hL5⟩
          have hs5 : St w w5 [(⟨.slice (some ⟨gx, 0, none⟩) 1 1, 25, 6, 1, [.int .i64 kind, .int .i64 seq, .int .i64 n, .int .i64 mm, iv, dv]⟩ : Row)] [] := (hs4.call0 hk5).tail.tail
          obtain ⟨_, _, _, _, _, hv5, _⟩ := hL5.at
          subst hv5
          clear HLN hs4 hs3 hk5
          go_wp2_with (first | ((with_reducible show wpList _ _ _ _ _ _); refine wpl_want rfl ?_) | (go_at_call 21; refine (lists_same _ _ l _ hL5 (HLL.out.old hs5)).mono ?_; rintro e w6 ⟨rfl, hk6⟩; have hs6 := hs5.call0 hk6) | ((with_reducible show wpList _ _ _ _ _ _); refine wpl_loadA rfl 25 _ rfl Tryd.aMsg (gx) (0) rfl ([.int .i64 kind, .int .i64 seq, .int .i64 n, .int .i64 mm, iv, dv]) rfl (VCof hs6 (List.mem_cons_self ..)) ?_))
          refine (HENC.out _ hs6.bare).mono ?_
          rintro e w7 (⟨hmay, v7, rfl, hk7⟩ | ⟨hmay, rfl, hk7⟩)
          case inr =>
            have hs7 := hs6.call0 hk7
            rw [hmay] at HMAY
            clear hs6 hk7
            go_wp2_with (first | ((with_reducible show wpList _ _ _ _ _ _); refine wpl_want rfl ?_) | ((with_reducible show wpList _ _ _ _ _ _); refine wpl_loadA rfl 25 _ rfl Tryd.aMsg (gx) (0) rfl ([.int .i64 kind, .int .i64 seq, .int .i64 n, .int .i64 mm, iv, dv]) rfl (VCof hs7 (List.mem_cons_self ..)) ?_) | (go_at_call 15; refine (HMAY.out _ hs7.bare).mono ?_; rintro e w8 ⟨rfl, hk8⟩; replace hs7 := hs7.call0 hk8) | (go_at_call 6; refine (firstPkt_any _).mono ?_; rintro e w9 ⟨rfl, hk9⟩; replace hs7 := hs7.call0 hk9))
            go_ret
            exact ⟨rfl, hs7.below⟩
          case inl =>
          rw [hmay] at HMAY
          have hs7 := hs6.call1 hk7
          have hlen8 := enc_len8 M
          have hsm := enc_small hmay
          obtain ⟨gb, cb, rfl, -, -, hcb1, hcb2⟩ := hk7.form0 (by omega)
          have HWH := Mx.hid (fun M' er (h : DecM (encM M) M' er) => dec_whole hmay h)
          have HCUT := Mx.hid (fun k hk M' er (h : DecM ((encM M).take k) M' er) => dec_cut hmay (k := k) hk h)
          have HTURN := Mx.hid (fun k (hk : k < (encM M).length) (hx : x ≠ 0) M' er (h : DecM ((encM M).set k ((encM M)[k] ^^^ x)) M' er) => dec_turned hk (xor_ne hx) h)
          have hl16 : 16 ≤ (encM M).length := by omega
          clear hs6 hk7 hlen8
          generalize encM M = E at *
          go_wp2_with (first | ((with_reducible show wpList _ _ _ _ _ _); refine wpl_want rfl ?_) | ((with_reducible show wpList _ _ _ _ _ _); refine wpl_loadA rfl 25 _ rfl Tryd.aMsg (gx) (0) rfl ([.int .i64 kind, .int .i64 seq, .int .i64 n, .int .i64 mm, iv, dv]) rfl (VCof hs7 (List.mem_cons_of_mem _ (List.mem_cons_self ..))) ?_) | (go_at_call 15; refine (HMAY.out _ hs7.bare).mono ?_; rintro e w8 ⟨rfl, hk8⟩; replace hs7 := hs7.call0 hk8))
          refine (decP_any _ E _ hs7.sl0 (by omega) (HL.out _ hs7.bare)).mono ?_
          rintro e w9 ⟨iv', dv', M', er, rfl, hk9, hMB, hd⟩
          obtain ⟨hMM, rfl⟩ := HWH.out _ _ hd
          subst M'
          have hs9 := hs7.call0 hk9
          rw [HE.out]
          obtain ⟨io, ic, rfl, -⟩ := hMB.i.form
          obtain ⟨dq, dc, rfl, -⟩ := hMB.d.form
          clear hd hs7 hk9
          go_upto_region 25 with (first | ((with_reducible show wpList _ _ _ _ _ _); refine wpl_want rfl ?_) | ((with_reducible show wpList _ _ _ _ _ _); refine wpl_storeA rfl 25 _ _ rfl Tryd.aMsg ((St.refl w9).madeAt #[.int .i64 0, .int .i64 0, .int .i64 0, .int .i64 0, .slice none 0 0, .slice none 0 0] 25 6 1 _ rfl (by simp [maxLen]) rfl) (0) rfl ([.int .i64 kind, .int .i64 seq, .int .i64 n, .int .i64 mm, .slice io M.ids.length ic, .slice dq M.data.length dc]) rfl (by rfl) (by simp) (by intro u hu; simp at hu; rcases hu with rfl | rfl | rfl | rfl | rfl | rfl <;> rfl) ?_; intro w10 hk10))
          replace hk10 := hk10.cast rfl (show _ = [.int .i64 kind, .int .i64 seq, .int .i64 n, .int .i64 mm, .slice io M.ids.length ic, .slice dq M.data.length dc] by simp)
          have hMB' := hMB.old hk10
          generalize w9.heap.size = gp at *
          have hs10 := hs9.call1 hk10
          have hcp := VCof hs10 (List.mem_cons_self ..)
          have hcx := VCof hs10 (List.mem_cons_of_mem _ (List.mem_cons_of_mem _ (List.mem_cons_self ..)))
          clear hMB hk10 hs9
          have HSM := Mx.hid (HSAME.out _ hs10.bare _ _ hMB')
          go_upto_region 27 with (first | ((with_reducible show wpList _ _ _ _ _ _); refine wpl_want rfl ?_) | ((with_reducible show wpList _ _ _ _ _ _); refine wpl_loadA rfl 25 _ rfl Tryd.aMsg (gp) (0) rfl ([.int .i64 kind, .int .i64 seq, .int .i64 n, .int .i64 mm, .slice io M.ids.length ic, .slice dq M.data.length dc]) rfl hcp ?_) | ((with_reducible show wpList _ _ _ _ _ _); refine wpl_loadA rfl 25 _ rfl Tryd.aMsg (gx) (0) rfl ([.int .i64 kind, .int .i64 seq, .int .i64 n, .int .i64 mm, iv, dv]) rfl hcx ?_) | (go_at_call 18; refine HSM.out.mono ?_; rintro e w11 ⟨rfl, hk11⟩; have hs11 := (hs10.call0 hk11).tail))
          clear hcp hcx HSM hMB' hs10 hk11
          by_cases ha0 : a < 0
          · have q1 : decide (a < 0) = true := decide_eq_true ha0
            go_wp2_with (first | ((with_reducible show wpList _ _ _ _ _ _); refine wpl_want rfl ?_) | (go_at_call 6; refine (firstPkt_any _).mono ?_; rintro e w12 ⟨rfl, hk12⟩; replace hs11 := hs11.call0 hk12))
            go_ret
            exact ⟨rfl, hs11.below⟩
          have q1 : decide (a < 0) = false := decide_eq_false ha0
          by_cases haE : (E.length : Int) ≤ a
          · have q2 : decide ((E.length : Int) ≤ a) = true := decide_eq_true haE
            go_wp2_with (first | ((with_reducible show wpList _ _ _ _ _ _); refine wpl_want rfl ?_) | (go_at_call 6; refine (firstPkt_any _).mono ?_; rintro e w12 ⟨rfl, hk12⟩; replace hs11 := hs11.call0 hk12))
            go_ret
            exact ⟨rfl, hs11.below⟩
          have q2 : decide ((E.length : Int) ≤ a) = false := decide_eq_false haE
          by_cases hx0 : x = 0
          · have q3 : ((x.toNat : Int) == 0) = true := by rw [hx0]; rfl
            clear hx0
            go_wp2_with (first | ((with_reducible show wpList _ _ _ _ _ _); refine wpl_want rfl ?_) | (go_at_call 6; refine (firstPkt_any _).mono ?_; rintro e w12 ⟨rfl, hk12⟩; replace hs11 := hs11.call0 hk12))
            go_ret
            exact ⟨rfl, hs11.below⟩
          have q3 : ((x.toNat : Int) == 0) = false := by
            rw [beq_eq_false_iff_ne]
            intro h
            exact hx0 (UInt8.toNat_inj.1 (by simpa using h))
          obtain ⟨k, rfl⟩ := Int.eq_ofNat_of_zero_le (show 0 ≤ a by omega)
          have hkE : k < E.length := by omega
          have HC1 := Mx.hid (HCUT.out k hkE)
          have HT1 := Mx.hid (HTURN.out k hkE hx0)
          clear hx0 HCUT HTURN HWH
          go_wp2_with (first | ((with_reducible show wpList _ _ _ _ _ _); refine wpl_want rfl ?_) | ((with_reducible show wpList _ _ _ _ _ _); refine wpl_cut rfl 23 _ _ _ rfl Tryd.elU8 (by exact hs11.sl0) 0 k (.inl ⟨rfl, rfl⟩) (.inr ⟨.i64, rfl⟩) (by omega) (by omega) ?_; intro v12 hv12; replace hv12 := Sl.cutB (hv12 _ (by exact hs11.sl0)) (by omega) (by omega)))
          rw [List.drop_zero] at hv12
          refine (decP_any v12 (E.take k) w11 hv12 (by rw [List.length_take]; omega) (HL.out _ hs11.bare)).mono ?_
          rintro e w12 ⟨iv2, dv2, M2, er2, rfl, hk12, hMB2, hd2⟩
          have hne := HC1.out _ _ hd2
          have q5 : (er2 == 0) = false := by simpa using hne
          have q6 : (er2 != 0) = true := by simpa using hne
          have q7 : decide (er2 = 0) = false := decide_eq_false hne
          have hs12 := hs11.call0 hk12
          obtain ⟨io2, ic2, rfl, -⟩ := hMB2.i.form
          obtain ⟨dq2, dc2, rfl, -⟩ := hMB2.d.form
          unfold MV
          clear hd2 hMB2 hk12 hv12 hs11 HC1 hne
          have hyk : (bs E)[k]? = some (.int .u8 (E[k].toNat : Int)) := bs_get hkE
          have hxo := xorP_u8 E[k] x
          have HSET := Mx.hid (fun z => bs_setT (l := E) hkE (y := z))
          have HLB := Mx.hid (show k < (bs E).length by rw [bs_len]; exact hkE)
          generalize E[k] = y at *
          obtain ⟨z, hz⟩ : ∃ z, z = y ^^^ x := ⟨_, rfl⟩
          rw [← hz] at hxo HT1
          clear hz
          go_upto_region 30 with (first | ((with_reducible show wpList _ _ _ _ _ _); refine wpl_want rfl ?_) | ((with_reducible show wpList _ _ _ _ _ _); refine wpl_storeA rfl 25 _ _ rfl Tryd.aMsg (hs12.madeAt #[.int .i64 0, .int .i64 0, .int .i64 0, .int .i64 0, .slice none 0 0, .slice none 0 0] 25 6 1 _ rfl (by simp [maxLen]) rfl) (0) rfl ([.int .i64 M2.kind, .int .i64 M2.seq, .int .i64 M2.n, .int .i64 M2.m, .slice io2 M2.ids.length ic2, .slice dq2 M2.data.length dc2]) rfl (by rfl) (by simp) (by intro u hu; simp at hu; rcases hu with rfl | rfl | rfl | rfl | rfl | rfl <;> rfl) ?_; intro w13 hs13))
          replace hs13 := hs13.tail
          have c1 : w13.cell? ⟨gb, k, none⟩ = some (.int .u8 (y.toNat : Int)) := hs13.cell hyk
          clear hs12 hyk
          have hkk : (k : Int) < (E.length : Int) := by omega
          go_upto_region 31 with (first | ((with_reducible show wpList _ _ _ _ _ _); refine wpl_want rfl ?_) | ((with_reducible show wpList _ _ _ _ _ _); refine wpl_store1 rfl 5 _ _ rfl hs13 (k) rfl (.int .u8 (z.toNat : Int)) rfl rfl (by kernel_rfl) HLB.out rfl ?_; intro w14 hs14))
          replace hs14 := hs14.cast rfl (HSET.out z)
          clear hs13 c1
          go_wp2_with (first | ((with_reducible show wpList _ _ _ _ _ _); refine wpl_want rfl ?_))
          refine (decP_any _ (E.set k z) w14 (by rw [List.length_set]; exact hs14.sl0) (by rw [List.length_set]; omega) (HL.out _ hs14.bare)).mono ?_
          rintro e w15 ⟨iv3, dv3, M3, er3, rfl, hk15, hMB3, hd3⟩
          obtain rfl := HT1.out _ _ hd3
          have hs15 := hs14.call0 hk15
          obtain ⟨io3, ic3, rfl, -⟩ := hMB3.i.form
          obtain ⟨dq3, dc3, rfl, -⟩ := hMB3.d.form
          unfold MV
          clear hd3 hMB3 hk15 hs14 HT1
          go_wp2_with (first | ((with_reducible show wpList _ _ _ _ _ _); refine wpl_want rfl ?_) | ((with_reducible show wpList _ _ _ _ _ _); refine wpl_storeA rfl 25 _ _ rfl Tryd.aMsg (hs15.madeAt #[.int .i64 0, .int .i64 0, .int .i64 0, .int .i64 0, .slice none 0 0, .slice none 0 0] 25 6 1 _ rfl (by simp [maxLen]) rfl) (0) rfl ([.int .i64 M3.kind, .int .i64 M3.seq, .int .i64 M3.n, .int .i64 M3.m, .slice io3 M3.ids.length ic3, .slice dq3 M3.data.length dc3]) rfl (by rfl) (by simp) (by intro u hu; simp at hu; rcases hu with rfl | rfl | rfl | rfl | rfl | rfl <;> rfl) ?_; intro w16 hs16) | (go_at_call 6; refine (firstPkt_any _).mono ?_; rintro e w17 ⟨rfl, hk17⟩; replace hs16 := hs16.call0 hk17))
          go_ret
          exact ⟨rfl, hs16.below⟩
end Go.Proofs.YtloogjdafhjheaaDoor
