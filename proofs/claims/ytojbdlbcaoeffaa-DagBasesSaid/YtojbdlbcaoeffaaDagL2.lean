/- Walk of the law DagBases. -/
import Derived.Test.YtojbdlbcaoeffaaDagG
namespace Go.Proofs.Ytojbdlbcaoeffaa
open Go.RowKit Go.Mx

set_option maxRecDepth 200000 in
set_option maxHeartbeats 4000000 in
theorem dagBasesRow {w : World} (v : Value) (l : List Gd) (hl : ND w v l) (hok : ∀ q ∈ l, NdOk q) (a : ByteArray) (_ha : a.size ≤ maxLen) (b : ByteArray) (_hb : b.size ≤ maxLen) (_w : World) :
    Calls Try.prog 3 #[v, .string a, .string b] w fun e w' => e = .returned (.bool true) ∧ Below w.heap.size w w' := by
  have HMD := Mx.hid (fun w' (hs : St w w' [] []) => made_g v l w' (hl.old hs) hok)
  obtain ⟨av, cv, rfl, _⟩ := hl.1.form
  clear hl hok _ha _hb
  go_enter Try.func3, Try.ntmps3
  go_wp2_with fail
  refine (first_g _).mono ?_
  rintro e w1 ⟨rfl, hk⟩
  go_wp2_with fail
  refine (HMD.out _ hk).mono ?_
  clear HMD
  rintro e w2 (⟨rfl, hs2⟩ | ⟨g, B, G, rfl, hG, hlen, hg, hB, hs2⟩)
  · replace hk := hk.call0 hs2
    have hj := St.refl w2
    clear hs2
    go_wp2_with (first | ((with_reducible show wpList _ _ _ _ _ _); refine wpl_want rfl ?_) | (go_at_call 8; refine (first_g _).mono ?_; rintro e w9 ⟨rfl, h9⟩; replace hk := hk.call0 h9; replace hj := hj.call0 h9))
    go_ret
    exact ⟨rfl, hk.below⟩
  replace hk := hk.call0 hs2
  have HG := Mx.hid hG
  have hj := St.refl w2
  clear hs2 hg hB hlen hG
  by_cases h1 : 100 < a.size
  · have q : decide ((100 : Int) < (a.size : Int)) = true := decide_eq_true (by omega)
    clear h1
    go_wp2_with (first | ((with_reducible show wpList _ _ _ _ _ _); refine wpl_want rfl ?_) | (go_at_call 8; refine (first_g _).mono ?_; rintro e w9 ⟨rfl, h9⟩; replace hk := hk.call0 h9; replace hj := hj.call0 h9))
    go_ret
    exact ⟨rfl, hk.below⟩
  have q : decide ((100 : Int) < (a.size : Int)) = false := decide_eq_false (by omega)
  by_cases h2 : 100 < b.size
  · have q2 : decide ((100 : Int) < (b.size : Int)) = true := decide_eq_true (by omega)
    clear h1 h2
    go_wp2_with (first | ((with_reducible show wpList _ _ _ _ _ _); refine wpl_want rfl ?_) | (go_at_call 8; refine (first_g _).mono ?_; rintro e w9 ⟨rfl, h9⟩; replace hk := hk.call0 h9; replace hj := hj.call0 h9))
    go_ret
    exact ⟨rfl, hk.below⟩
  have q2 : decide ((100 : Int) < (b.size : Int)) = false := decide_eq_false (by omega)
  clear h1 h2
  clear hj
  go_wp2_with (first | ((with_reducible show wpList _ _ _ _ _ _); refine wpl_want rfl ?_))
  refine (bases_g g B G _ [a] b _ (HG.out.r.st ((St.refl _).made #[.string a] 9 1 1 (by rfl) (by simp [maxLen]))) HG.out.wf ((St.refl _).made #[.string a] 9 1 1 (by rfl) (by simp [maxLen])).sl0 (by simp)).mono ?_
  clear q q2
  have HK := Mx.hid hk
  clear hk
  rintro e w3 (⟨vx, N, S1, Ma, Mb, rfl, hs3, hst, hnl, hca, hcb, hS, hne⟩ | ⟨rfl, hs3, hx⟩)
  · have hs3' := ((St.refl _).made #[.string a] 9 1 1 (by rfl) (by simp [maxLen])).bare.call hs3
    have HBF := Mx.hid (bases_fact HG.out.wf hst hca hcb hS hne)
    have HSW := Mx.hid (fun N' S' Ma' Mb' => bases_swap (N' := N') (S' := S') (Ma' := Ma') (Mb' := Mb') hst hca hcb hS hne)
    have HIN := Mx.hid (And.intro (hca.1 a (by simp)) (hcb.1 b (by simp)))
    have HST := Mx.hid hst.nodup
    have HG3 := Mx.hid (HG.out.keep hs3')
    obtain ⟨xa, xc, xb, xo, rfl, x1, x2, _, hxc⟩ := hs3'.sl0.txt
    have HX3 := Mx.hid hs3'.sl0
    have HK3 := Mx.hid (HK.out.call0 hs3'.bare)
    have HXC3 := Mx.hid hxc
    clear hs3 hs3' hst hca hcb hS hne hxc HK HG
    go_wp2_with (first | ((with_reducible show wpList _ _ _ _ _ _); refine wpl_want rfl ?_))
    refine (bases_g g B G _ [b] a _ (HG3.out.r.st ((St.refl _).made #[.string b] 9 1 1 (by rfl) (by simp [maxLen]))) HG3.out.wf ((St.refl _).made #[.string b] 9 1 1 (by rfl) (by simp [maxLen])).sl0 (by simp)).mono ?_
    rintro e w4 (⟨vy, N', S', Mb', Ma', rfl, hs4, hst, hnl', hcb, hca, hS, hne⟩ | ⟨rfl, hs4, hx⟩)
    · have hs4' := ((St.refl _).made #[.string b] 9 1 1 (by rfl) (by simp [maxLen])).bare.call hs4
      have HE := Mx.hid (HSW.out N' S' Mb' Ma' hst hcb hca hS hne)
      have HG4 := Mx.hid (HG3.out.keep hs4')
      have HX4 := Mx.hid (hs4'.old HX3.out)
      have HXC := Mx.hid (fun i (hi : i < N.length) => (⟨(HXC3.out i hi).1, hs4'.keep (HXC3.out i hi).2⟩ : xa = some ⟨xb, xo, none⟩ ∧ w4.cell? ⟨xb, xo + i, none⟩ = some (.string N[i])))
      obtain ⟨ya, yc, rfl, _⟩ := hs4'.sl0.form
      have HY4 := Mx.hid hs4'.sl0
      have hk := HK3.out.call0 hs4'.bare
      clear hs4 hs4' hst hcb hca hS hne HSW HX3 HG3 HK3 HXC3
      have HHA := Mx.hid (fun wx (hs : St w4 wx [] []) => has_g g B G a wx (HG4.out.keep hs).r)
      have HHB := Mx.hid (fun wx (hs : St w4 wx [] []) => has_g g B G b wx (HG4.out.keep hs).r)
      have HIS := Mx.hid (fun a b wx (hs : St w4 wx [] []) => is_c g B G a b wx (HG4.out.keep hs))
      have HAN := Mx.hid (fun vz wx (hs : St w4 wx [] []) (h : Sl wx 1 vz 1 (ss [a])) => ancestors_g g B G vz [a] wx (HG4.out.keep hs).r HG4.out.wf h (by simp))
      have hia : isIn (G.map (·.2)) a = true := by unfold isIn; rw [Option.isSome_iff_exists]; exact HIN.out.1
      have hib : isIn (G.map (·.2)) b = true := by unfold isIn; rw [Option.isSome_iff_exists]; exact HIN.out.2
      rw [hia] at HHA
      rw [hib] at HHB
      have HTQ := Mx.hid (fun wx (hs : St w4 wx [] []) => texts_same (.slice xa N.length xc) (.slice ya N'.length yc) N N' wx (hs.old HX4.out) (hs.old HY4.out) HE)
      have HFF := Mx.hid (show (∀ x ∈ N, isB (G.map (·.2)) x a = true ∧ isB (G.map (·.2)) x b = true) ∧ (∀ x ∈ N, ∀ y ∈ N, x ≠ y → isB (G.map (·.2)) x y = false) ∧ (isB (G.map (·.2)) a b = true → N = [a]) ∧ (∀ x, Anc (G.map (·.2)) x a → isB (G.map (·.2)) x b = true → N.any (isB (G.map (·.2)) x) = true) from
        ⟨fun x hx => ⟨isB_iff.2 ⟨(HBF.out.of x hx).1, HIN.out.1⟩, isB_iff.2 ⟨(HBF.out.of x hx).2, HIN.out.2⟩⟩, fun x hx y hy hne => by
          rw [Bool.eq_false_iff]
          intro h
          exact hne (HBF.out.sep x hx y hy (isB_iff.1 h).1), fun h => HBF.out.one (isB_iff.1 h).1, fun x h1 h2 => by
          obtain ⟨t, ht, h3⟩ := HBF.out.come x h1 (isB_iff.1 h2).1
          exact any_true ⟨t, ht, isB_iff.2 ⟨h3, HBF.out.isin t ht⟩⟩⟩)
      obtain ⟨f, hf⟩ : ∃ f, f = isB (G.map (·.2)) := ⟨_, rfl⟩
      rw [← hf] at HFF
      replace HIS := Mx.hid (show ∀ a b wx, St w4 wx [] [] → Calls Try.prog 13 #[.pointer (some ⟨g, 0, none⟩), .string a, .string b] wx fun e w' => e = .returned (.bool (f a b)) ∧ St wx w' [] [] from by rw [hf]; exact HIS.out)
      have HK := Mx.hid hk
      have hj := St.refl w4
      clear hf hia hib HBF
      go_wp2_with (first | ((with_reducible show wpList _ _ _ _ _ _); refine wpl_want rfl ?_) | (go_at_call 11; (with_reducible show Calls _ _ #[_, .string a] _ _); refine (HHA.out _ hj).mono ?_; rintro e w9 ⟨rfl, h9⟩; replace hk := hk.call0 h9; replace hj := hj.call0 h9) | (go_at_call 11; (with_reducible show Calls _ _ #[_, .string b] _ _); refine (HHB.out _ hj).mono ?_; rintro e w9 ⟨rfl, h9⟩; replace hk := hk.call0 h9; replace hj := hj.call0 h9) | (go_at_call 12; refine (HTQ.out _ hj).mono ?_; rintro e w9 ⟨rfl, h9⟩; replace hk := hk.call0 h9; replace hj := hj.call0 h9))
      have hq := hj
      clear hk hj HHA HHB
      go_loopw [12, 13] (fun x y wr => ∃ i : Nat, i ≤ N.length ∧ x = .int .i64 i ∧ St w4 wr [] []) (fun x _ _ => N.length - (intOf x).toNat)
      case atStart => exact ⟨0, by omega, rfl, hq⟩
      case round =>
        clear hq
        obtain ⟨i, hi, rfl, hq⟩ := hrel
        by_cases hlt : i < N.length
        · obtain ⟨rfl, c1⟩ := HXC.out i hlt
          have hii : (i : Int) < (N.length : Int) := by omega
          obtain ⟨g1, g2⟩ := HFF.out.1 _ (List.getElem_mem hlt)
          have HSEP := Mx.hid (fun (k : Nat) (hk : k < N.length) (hne : i ≠ k) => HFF.out.2.1 _ (List.getElem_mem hlt) _ (List.getElem_mem hk) (fun h => hne ((List.getElem_inj HST.out).1 h)))
          have HIA := Mx.hid (fun wx (hs : St w4 wx [] []) => HIS.out N[i] a wx hs)
          have HIB := Mx.hid (fun wx (hs : St w4 wx [] []) => HIS.out N[i] b wx hs)
          rw [g1] at HIA
          rw [g2] at HIB
          clear g1 g2
          have C0 := Mx.hid c1
          replace c1 := hq.keep c1
          generalize N[i] = n1 at *
          go_wp2_with (first | ((with_reducible show wpList _ _ _ _ _ _); refine wpl_want rfl ?_) | (go_at_call 13; (with_reducible show Calls _ _ #[_, _, .string a] _ _); refine (HIA.out _ hq).mono ?_; rintro e w9 ⟨rfl, h9⟩; replace hq := hq.call0 h9; replace c1 := h9.keep c1) | (go_at_call 13; (with_reducible show Calls _ _ #[_, _, .string b] _ _); refine (HIB.out _ hq).mono ?_; rintro e w9 ⟨rfl, h9⟩; replace hq := hq.call0 h9; replace c1 := h9.keep c1))
          clear c1
          go_loopw [13] (fun y wr => ∃ k : Nat, k ≤ N.length ∧ y = .int .i64 k ∧ St w4 wr [] []) (fun y _ => N.length - (intOf y).toNat)
          case atStart => exact ⟨0, by omega, rfl, hq⟩
          case round =>
            clear hq
            obtain ⟨k, hk, rfl, hq⟩ := hrel
            by_cases hkl : k < N.length
            · obtain ⟨_, c2⟩ := HXC.out k hkl
              have hkk : (k : Int) < (N.length : Int) := by omega
              have c1 := C0.out
              by_cases hik : i = k
              · have hne : ((i : Int) != (k : Int)) = false := by simp [hik]
                clear hik
                generalize N[k] = t at *
                go_wp2_with fail
                refine wp_region_C (fun W' => St w4 W' [] []) (by kernel_rfl) (by kernel_rfl) (by exact hq.drew) ?_
                repeat ((first | (refine cq_y0 (v := ?_) (by with_reducible rfl) ?_ ?_; rotate_left 1; (focus (intro wq hq; (try dsimp only at hq); (have y1 := hq.keep c1; have y2 := hq.keep c2); go_simp; (first | done | with_reducible rfl | fail)))) | (refine cq_no (by go_simp; first | done | (intro h9; cases h9)) ?_) | (refine cq_yes (v := ?_) (by go_simp) ?_ ?_; rotate_left 1; (focus (intro wq hq; (try dsimp only at hq); (have y1 := hq.keep c1; have y2 := hq.keep c2); go_simp; (first | done | with_reducible rfl | fail))))); (try simp only [Act.put, List.setIfInBounds_toArray, List.set_cons_zero, List.set_cons_succ]))
                refine cq_nil ?_
                intro wq hq
                (try dsimp only at hq)
                go_wp2_with fail
                refine ⟨⟨k + 1, by omega, by go_num, hq⟩, by simp [intOf]; omega⟩
              · have hne : ((i : Int) != (k : Int)) = true := by simp; omega
                have HS1 := Mx.hid (HSEP.out k hkl hik)
                clear hik
                generalize N[k] = t at *
                have HI2 := Mx.hid (fun wx (hs : St w4 wx [] []) => HIS.out n1 t wx hs)
                rw [HS1.out] at HI2
                go_wp2_with fail
                refine wp_region_C (fun W' => St w4 W' [] []) (by kernel_rfl) (by kernel_rfl) (by exact hq.drew) ?_
                repeat ((first | (refine cq_y0 (v := ?_) (by with_reducible rfl) ?_ ?_; rotate_left 1; (focus (intro wq hq; (try dsimp only at hq); (have y1 := hq.keep c1; have y2 := hq.keep c2); go_simp; (first | done | with_reducible rfl | (go_at_call 13; refine (HI2.out _ hq).mono ?_; rintro e w9 ⟨rfl, hk9⟩; refine ⟨?_, hq.call0 hk9⟩; with_reducible rfl))))) | (refine cq_no (by go_simp; first | done | (intro h9; cases h9)) ?_) | (refine cq_yes (v := ?_) (by go_simp) ?_ ?_; rotate_left 1; (focus (intro wq hq; (try dsimp only at hq); (have y1 := hq.keep c1; have y2 := hq.keep c2); go_simp; (first | done | with_reducible rfl | (go_at_call 13; refine (HI2.out _ hq).mono ?_; rintro e w9 ⟨rfl, hk9⟩; refine ⟨?_, hq.call0 hk9⟩; with_reducible rfl)))))); (try simp only [Act.put, List.setIfInBounds_toArray, List.set_cons_zero, List.set_cons_succ]))
                refine cq_nil ?_
                intro wq hq
                (try dsimp only at hq)
                go_wp2_with fail
                refine ⟨⟨k + 1, by omega, by go_num, hq⟩, by simp [intOf]; omega⟩
            · have hkk : ¬ (k : Int) < (N.length : Int) := by omega
              go_wp2_with fail
              refine ⟨⟨i + 1, by omega, by go_num, hq⟩, by simp [intOf]; omega⟩
        · have hii : ¬ (i : Int) < (N.length : Int) := by omega
          go_wp2_with (first | ((with_reducible show wpList _ _ _ _ _ _); refine wpl_want rfl ?_))
          have hz := hq.made #[.string a] 9 1 1 (by rfl) (by simp [maxLen])
          refine (HAN.out _ _ hz.bare hz.sl0).mono ?_
          have HZ := Mx.hid hz.bare
          clear hq hz hii hlt hi
          rintro e w5 (⟨vu, M, rfl, hs5, hcl, hst5, hml⟩ | ⟨vu, rfl, hs5, i, hi, hno⟩)
          case inr =>
            exfalso
            obtain ⟨n, hn⟩ := HIN.out.1
            rw [List.mem_singleton.1 hi, hn] at hno
            cases hno
          have hz5 := HZ.out.call hs5
          have HX5 := Mx.hid (hz5.old HX4.out)
          have HXC5 := Mx.hid (fun i (hi : i < N.length) => (⟨(HXC.out i hi).1, hz5.keep (HXC.out i hi).2⟩ : xa = some ⟨xb, xo, none⟩ ∧ w5.cell? ⟨xb, xo + i, none⟩ = some (.string N[i])))
          have HIS5 := Mx.hid (fun a b wx (hs : St w5 wx [] []) => HIS.out a b wx (hz5.bare.call0 hs))
          have HUP := Mx.hid (fun (u : ByteArray) (hu : u ∈ M) (hb : f u b = true) => HFF.out.2.2.2 u ((mem_one hcl u).1 hu) hb)
          have HK5 := Mx.hid (HK.out.call0 hz5.bare)
          obtain ⟨ua, uc, ub, uo, rfl, u1, u2, _, huc⟩ := hz5.sl0.txt
          have HUC := Mx.hid huc
          clear hs5 hcl hst5 hz5 huc HK HX4 HXC HZ HAN
          go_wp2_with fail
          go_loopw [16, 17, 18] (fun x y z wr => ∃ i : Nat, i ≤ M.length ∧ x = .int .i64 i ∧ St w5 wr [] []) (fun x _ _ _ => M.length - (intOf x).toNat)
          case atStart => exact ⟨0, by omega, rfl, St.refl w5⟩
          case round =>
            obtain ⟨i, hi, rfl, hq⟩ := hrel
            by_cases hlt : i < M.length
            · obtain ⟨rfl, c1⟩ := HUC.out i hlt
              have hii : (i : Int) < (M.length : Int) := by omega
              have HANY := Mx.hid (HUP.out _ (List.getElem_mem hlt))
              have C0 := Mx.hid c1
              replace c1 := hq.keep c1
              generalize M[i] = u at *
              generalize hfu : f u b = fu at *
              have HIB := Mx.hid (fun wx (hs : St w5 wx [] []) => HIS5.out u b wx hs)
              rw [hfu] at HIB
              clear hfu
              go_wp2_with (first | ((with_reducible show wpList _ _ _ _ _ _); refine wpl_want rfl ?_) | (go_at_call 13; refine (HIB.out _ hq).mono ?_; rintro e w9 ⟨rfl, h9⟩; replace hq := hq.call0 h9; replace c1 := h9.keep c1))
              clear c1
              go_loopw [17, 18] (fun y z wr => ∃ (k : Nat) (b : Bool), k ≤ N.length ∧ y = .bool b ∧ z = .int .i64 k ∧ Hid (b = (!fu || (N.take k).any (f u))) ∧ St w5 wr [] []) (fun _ z _ => N.length - (intOf z).toNat)
              case atStart => exact ⟨0, !fu, by omega, rfl, rfl, Mx.hid (by simp), hq⟩
              case round =>
                clear hq
                obtain ⟨k, bb, hk, rfl, rfl, HBK, hq⟩ := hrel
                by_cases hkl : k < N.length
                · obtain ⟨rfl, c2⟩ := HXC5.out k hkl
                  have HTK := Mx.hid (any_take (f := f u) hkl)
                  have hkk : (k : Int) < (N.length : Int) := by omega
                  have c1 := C0.out
                  generalize N[k] = t at *
                  cases bb with
                  | true =>
                    go_wp2_with fail
                    refine wp_region_C (fun W' => St w5 W' [] []) (by kernel_rfl) (by kernel_rfl) (by exact hq.drew) ?_
                    repeat ((first | (refine cq_y0 (v := ?_) (by with_reducible rfl) ?_ ?_; rotate_left 1; (focus (intro wq hq; (try dsimp only at hq); (have y1 := hq.keep c1; have y2 := hq.keep c2); go_simp; (first | done | with_reducible rfl | fail)))) | (refine cq_no (by go_simp; first | done | (intro h9; cases h9)) ?_) | (refine cq_yes (v := ?_) (by go_simp) ?_ ?_; rotate_left 1; (focus (intro wq hq; (try dsimp only at hq); (have y1 := hq.keep c1; have y2 := hq.keep c2); go_simp; (first | done | with_reducible rfl | fail))))); (try simp only [Act.put, List.setIfInBounds_toArray, List.set_cons_zero, List.set_cons_succ]))
                    refine cq_nil ?_
                    intro wq hq
                    (try dsimp only at hq)
                    go_wp2_with fail
                    refine ⟨⟨k + 1, true, by omega, rfl, by go_num, Mx.hid ?_, hq⟩, by simp [intOf]; omega⟩
                    rw [HTK.out, ← Bool.or_assoc, ← HBK.out]
                    rfl
                  | false =>
                    go_wp2_with fail
                    refine wp_region_C (fun W' => St w5 W' [] []) (by kernel_rfl) (by kernel_rfl) (by exact hq.drew) ?_
                    repeat ((first | (refine cq_y0 (v := ?_) (by with_reducible rfl) ?_ ?_; rotate_left 1; (focus (intro wq hq; (try dsimp only at hq); (have y1 := hq.keep c1; have y2 := hq.keep c2); go_simp; (first | done | with_reducible rfl | (go_at_call 13; refine (HIS5.out _ _ _ hq).mono ?_; rintro e w9 ⟨rfl, hk9⟩; refine ⟨?_, hq.call0 hk9⟩; with_reducible rfl))))) | (refine cq_no (by go_simp; first | done | (intro h9; cases h9)) ?_) | (refine cq_yes (v := ?_) (by go_simp) ?_ ?_; rotate_left 1; (focus (intro wq hq; (try dsimp only at hq); (have y1 := hq.keep c1; have y2 := hq.keep c2); go_simp; (first | done | with_reducible rfl | (go_at_call 13; refine (HIS5.out _ _ _ hq).mono ?_; rintro e w9 ⟨rfl, hk9⟩; refine ⟨?_, hq.call0 hk9⟩; with_reducible rfl)))))); (try simp only [Act.put, List.setIfInBounds_toArray, List.set_cons_zero, List.set_cons_succ]))
                    refine cq_nil ?_
                    intro wq hq
                    (try dsimp only at hq)
                    go_wp2_with fail
                    refine ⟨⟨k + 1, f u t, by omega, rfl, by go_num, Mx.hid ?_, hq⟩, by simp [intOf]; omega⟩
                    rw [HTK.out, ← Bool.or_assoc, ← HBK.out]
                    rfl
                · have hkk : ¬ (k : Int) < (N.length : Int) := by omega
                  have hbt : bb = true := by
                    have := HBK.out
                    rw [List.take_of_length_le (by omega)] at this
                    rw [this]
                    cases fu with
                    | false => rfl
                    | true => rw [HANY.out rfl]; rfl
                  subst hbt
                  go_wp2_with fail
                  refine ⟨⟨i + 1, by omega, by go_num, hq⟩, by simp [intOf]; omega⟩
            · have hii : ¬ (i : Int) < (M.length : Int) := by omega
              have hk := HK5.out.call0 hq
              have HQ := Mx.hid hq
              have HIAB := Mx.hid (fun wx (hs : St w5 wx [] []) => HIS5.out a b wx hs)
              have HONE := Mx.hid HFF.out.2.2.1
              clear hq
              have hj : St wr wr [] [] := St.refl wr
              cases hfab : f a b with
              | false =>
                rw [hfab] at HIAB
                clear hfab
                go_wp2_with (first | ((with_reducible show wpList _ _ _ _ _ _); refine wpl_want rfl ?_) | (go_at_call 8; refine (first_g _).mono ?_; rintro e w9 ⟨rfl, h9⟩; replace hk := hk.call0 h9; replace hj := hj.call0 h9) | (go_at_call 13; refine (HIAB.out _ (HQ.out.call0 hj)).mono ?_; rintro e w9 ⟨rfl, h9⟩; replace hk := hk.call0 h9; replace hj := hj.call0 h9))
                go_ret
                exact ⟨rfl, hk.below⟩
              | true =>
                rw [hfab] at HIAB
                have HN1 := Mx.hid (HONE.out hfab)
                clear hfab
                go_wp2_with (first | ((with_reducible show wpList _ _ _ _ _ _); refine wpl_want rfl ?_) | (go_at_call 8; refine (first_g _).mono ?_; rintro e w9 ⟨rfl, h9⟩; replace hk := hk.call0 h9; replace hj := hj.call0 h9) | (go_at_call 13; refine (HIAB.out _ (HQ.out.call0 hj)).mono ?_; rintro e w9 ⟨rfl, h9⟩; replace hk := hk.call0 h9; replace hj := hj.call0 h9; have hm := hj.made #[.string a] 9 1 1 (by rfl) (by simp [maxLen]); have hkm := (hk.made #[.string a] 9 1 1 (by rfl) (by simp [maxLen])).bare) | (go_at_call 12; refine (texts_same _ _ N [a] _ (HQ.out.old HX5.out |> hm.old) hm.sl0 HN1).mono ?_; rintro e w9 ⟨rfl, h9⟩; replace hkm := hkm.call0 h9))
                go_ret
                exact ⟨rfl, hkm.below⟩
    · exfalso
      rcases hx with ⟨i, hi, hn⟩ | hn
      · rw [List.mem_singleton.1 hi] at hn
        obtain ⟨n, hn2⟩ := HIN.out.2
        rw [hn] at hn2
        cases hn2
      · obtain ⟨n, hn2⟩ := HIN.out.1
        rw [hn] at hn2
        cases hn2
  · have hs3' := ((St.refl _).made #[.string a] 9 1 1 (by rfl) (by simp [maxLen])).bare.call0 hs3
    have HG3 := Mx.hid (HG.out.keep hs3')
    have HK3 := Mx.hid (HK.out.call0 hs3')
    have HX := Mx.hid (show fnd (G.map (·.2)) a = none ∨ fnd (G.map (·.2)) b = none by
      rcases hx with ⟨i, hi, hn⟩ | hn
      · rw [List.mem_singleton.1 hi] at hn; exact .inl hn
      · exact .inr hn)
    clear hs3 hs3' hx HG HK
    go_wp2_with (first | ((with_reducible show wpList _ _ _ _ _ _); refine wpl_want rfl ?_))
    refine (bases_g g B G _ [b] a _ (HG3.out.r.st ((St.refl _).made #[.string b] 9 1 1 (by rfl) (by simp [maxLen]))) HG3.out.wf ((St.refl _).made #[.string b] 9 1 1 (by rfl) (by simp [maxLen])).sl0 (by simp)).mono ?_
    rintro e w4 (⟨vy, N', S', Mb', Ma', rfl, hs4, hst, hnl', hcb, hca, hS, hne⟩ | ⟨rfl, hs4, hx⟩)
    · exfalso
      rcases HX.out with hn | hn
      · obtain ⟨n, hn2⟩ := hca.1 a (by simp)
        rw [hn] at hn2
        cases hn2
      · obtain ⟨n, hn2⟩ := hcb.1 b (by simp)
        rw [hn] at hn2
        cases hn2
    · have hs4' := ((St.refl _).made #[.string b] 9 1 1 (by rfl) (by simp [maxLen])).bare.call0 hs4
      have HG4 := Mx.hid (HG3.out.keep hs4')
      have hk := HK3.out.call0 hs4'
      clear hs4 hs4' hx HG3 HK3
      have HHA := Mx.hid (fun wx (hs : St w4 wx [] []) => has_g g B G a wx (HG4.out.keep hs).r)
      have HHB := Mx.hid (fun wx (hs : St w4 wx [] []) => has_g g B G b wx (HG4.out.keep hs).r)
      have hj := St.refl w4
      cases hia : isIn (G.map (·.2)) a with
      | false =>
        rw [hia] at HHA
        clear hia HX
        go_wp2_with (first | ((with_reducible show wpList _ _ _ _ _ _); refine wpl_want rfl ?_) | (go_at_call 8; refine (first_g _).mono ?_; rintro e w9 ⟨rfl, h9⟩; replace hk := hk.call0 h9; replace hj := hj.call0 h9) | (go_at_call 11; (with_reducible show Calls _ _ #[_, .string a] _ _); refine (HHA.out _ hj).mono ?_; rintro e w9 ⟨rfl, h9⟩; replace hk := hk.call0 h9; replace hj := hj.call0 h9) | (go_at_call 11; (with_reducible show Calls _ _ #[_, .string b] _ _); refine (HHB.out _ hj).mono ?_; rintro e w9 ⟨rfl, h9⟩; replace hk := hk.call0 h9; replace hj := hj.call0 h9))
        go_ret
        exact ⟨rfl, hk.below⟩
      | true =>
        have hib : isIn (G.map (·.2)) b = false := by
          rcases HX.out with hn | hn
          · unfold isIn at hia; rw [hn] at hia; cases hia
          · unfold isIn; rw [hn]; rfl
        rw [hia] at HHA
        rw [hib] at HHB
        clear hia hib HX
        go_wp2_with (first | ((with_reducible show wpList _ _ _ _ _ _); refine wpl_want rfl ?_) | (go_at_call 8; refine (first_g _).mono ?_; rintro e w9 ⟨rfl, h9⟩; replace hk := hk.call0 h9; replace hj := hj.call0 h9) | (go_at_call 11; (with_reducible show Calls _ _ #[_, .string a] _ _); refine (HHA.out _ hj).mono ?_; rintro e w9 ⟨rfl, h9⟩; replace hk := hk.call0 h9; replace hj := hj.call0 h9) | (go_at_call 11; (with_reducible show Calls _ _ #[_, .string b] _ _); refine (HHB.out _ hj).mono ?_; rintro e w9 ⟨rfl, h9⟩; replace hk := hk.call0 h9; replace hj := hj.call0 h9))
        go_ret
        exact ⟨rfl, hk.below⟩
end Go.Proofs.Ytojbdlbcaoeffaa
