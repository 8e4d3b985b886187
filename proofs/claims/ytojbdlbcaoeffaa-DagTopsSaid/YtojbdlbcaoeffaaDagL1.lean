/- Walk of the law DagTops. -/
import Derived.Test.YtojbdlbcaoeffaaDagG
namespace Go.Proofs.Ytojbdlbcaoeffaa
open Go.RowKit Go.Mx

set_option maxRecDepth 200000 in
set_option maxHeartbeats 2000000 in
theorem dagTopsRow {w : World} (v : Value) (l : List Gd) (hl : ND w v l) (hok : ∀ q ∈ l, NdOk q) (vi : Value) (ids : List ByteArray) (hv : Sl w 1 vi ids.length (ss ids)) (_hz : ∀ x ∈ ids, x.size ≤ maxLen) (_w : World) :
    Calls Try.prog 4 #[v, vi] w fun e w' => e = .returned (.bool true) ∧ Below w.heap.size w w' := by
  have HV := Mx.hid hv
  have HMD := Mx.hid (fun w' (hs : St w w' [] []) => made_g v l w' (hl.old hs) hok)
  obtain ⟨ao, cap, blk, off, rfl, h1, h2, _, hcc⟩ := hv.txt
  have HC := Mx.hid hcc
  obtain ⟨av, cv, rfl, _⟩ := hl.1.form
  clear hcc hv hl hok _hz
  go_enter Try.func4, Try.ntmps4
  go_wp2_with fail
  refine (first_g _).mono ?_
  rintro e w1 ⟨rfl, hk⟩
  go_wp2_with fail
  refine (HMD.out _ hk).mono ?_
  clear HMD
  rintro e w2 (⟨rfl, hs2⟩ | ⟨g, B, G, rfl, hG, hlen, hg, hB, hs2⟩)
  · replace hk := hk.call0 hs2
    clear hs2
    go_wp2_with (first | ((with_reducible show wpList _ _ _ _ _ _); refine wpl_want rfl ?_) | (go_at_call 8; refine (first_g _).mono ?_; rintro e w9 ⟨rfl, h9⟩; replace hk := hk.call0 h9))
    go_ret
    exact ⟨rfl, hk.below⟩
  replace hk := hk.call0 hs2
  have HG := Mx.hid hG
  clear hs2 hg hB hlen hG
  go_wp2_with (first | ((with_reducible show wpList _ _ _ _ _ _); refine wpl_want rfl ?_))
  refine (few_any _ ids _ (hk.old HV.out)).mono ?_
  rintro e w3 ⟨⟨b, rfl, hb⟩, rfl⟩
  cases b with
  | false =>
    clear hb
    go_wp2_with (first | ((with_reducible show wpList _ _ _ _ _ _); refine wpl_want rfl ?_) | (go_at_call 8; refine (first_g _).mono ?_; rintro e w9 ⟨rfl, h9⟩; replace hk := hk.call0 h9))
    go_ret
    exact ⟨rfl, hk.below⟩
  | true =>
  have hl20 := hb rfl
  clear hb
  have HT := Mx.hid (tops_g g B G _ ids _ HG.out.r HG.out.wf (hk.old HV.out) (by omega))
  go_wp2_with (first | ((with_reducible show wpList _ _ _ _ _ _); refine wpl_want rfl ?_))
  refine HT.out.mono ?_
  clear HT
  rintro e w4 (⟨vt, N, M, rfl, hs4, hst, hnl, hcl, hne⟩ | ⟨rfl, hs4, _⟩)
  case inr =>
    replace hk := hk.call0 hs4
    clear hs4
    go_wp2_with (first | ((with_reducible show wpList _ _ _ _ _ _); refine wpl_want rfl ?_) | (go_at_call 8; refine (first_g _).mono ?_; rintro e w9 ⟨rfl, h9⟩; replace hk := hk.call0 h9))
    go_ret
    exact ⟨rfl, hk.below⟩
  have HG4 := Mx.hid (HG.out.keep hs4)
  have HF := Mx.hid (tops_fact HG.out.wf hcl hne hst)
  have HT2 := Mx.hid hs4.sl0
  have HK := Mx.hid (hk.call0 hs4.bare)
  have HC4 := Mx.hid (fun (i : Nat) (hi : i < ids.length) => (⟨(HC.out i hi).1, hs4.keep (hk.keep (HC.out i hi).2)⟩ : ao = some ⟨blk, off, none⟩ ∧ w4.cell? ⟨blk, off + i, none⟩ = some (.string ids[i])))
  have HV4 := Mx.hid (hs4.old (hk.old HV.out))
  have HST := Mx.hid (And.intro hst.nodup hst)
  obtain ⟨at', ct, bt, ot, rfl, t1, t2, _, htc⟩ := hs4.sl0.txt
  have HTC := Mx.hid htc
  clear hs4 hst hcl hne htc HC hk HG HV
  have HIS := Mx.hid (fun a b wx (hs : St w4 wx [] []) => is_c g B G a b wx (HG4.out.keep hs))
  have HFF := Mx.hid (show (∀ a ∈ ids, N.any (isB (G.map (·.2)) a) = true) ∧ ∀ a ∈ N, ∀ b ∈ N, a ≠ b → isB (G.map (·.2)) a b = false from ⟨fun a ha => by
    obtain ⟨t, ht, hx⟩ := HF.out.come a ha
    exact any_true ⟨t, ht, isB_iff.2 ⟨hx, HF.out.isin t ht⟩⟩, fun a ha b hb hne => by
    rw [Bool.eq_false_iff]
    intro h
    exact hne (HF.out.sep a ha b hb (isB_iff.1 h).1)⟩)
  have HAG := Mx.hid (fun wx (hs : St w4 wx [] []) => tops_g g B G (.slice at' N.length ct) N wx (HG4.out.keep hs).r HG4.out.wf (hs.old HT2.out) (by omega))
  have HHS := Mx.hid (fun s wx (hs : St w4 wx [] []) => has_any (.slice ao ids.length cap) ids wx (hs.old HV4.out) s)
  have HW := Mx.hid HG4.out.wf
  obtain ⟨f, hf⟩ : ∃ f, f = isB (G.map (·.2)) := ⟨_, rfl⟩
  rw [← hf] at HFF
  replace HIS := Mx.hid (show ∀ a b wx, St w4 wx [] [] → Calls Try.prog 13 #[.pointer (some ⟨g, 0, none⟩), .string a, .string b] wx fun e w' => e = .returned (.bool (f a b)) ∧ St wx w' [] [] from by rw [hf]; exact HIS.out)
  clear hf HG4
  go_wp2_with fail
  go_loopw [8, 9, 10] (fun x y z wr => ∃ i : Nat, i ≤ ids.length ∧ x = .int .i64 i ∧ St w4 wr [] []) (fun x _ _ _ => ids.length - (intOf x).toNat)
  case atStart => exact ⟨0, by omega, rfl, St.refl w4⟩
  case round =>
    obtain ⟨i, hi, rfl, hq⟩ := hrel
    by_cases hlt : i < ids.length
    · obtain ⟨rfl, c1⟩ := HC4.out i hlt
      have HANY := Mx.hid (HFF.out.1 _ (List.getElem_mem hlt))
      have hii : (i : Int) < (ids.length : Int) := by omega
      generalize ids[i] = a at *
      go_wp2_with fail
      go_loopw [9, 10] (fun y z wr => ∃ (k : Nat) (b : Bool), k ≤ N.length ∧ y = .bool b ∧ z = .int .i64 k ∧ Hid (b = (N.take k).any (f a)) ∧ St w4 wr [] []) (fun _ z _ => N.length - (intOf z).toNat)
      case atStart => exact ⟨0, false, by omega, rfl, rfl, Mx.hid (by simp), hq⟩
      case round =>
        clear hq
        obtain ⟨k, b, hk, rfl, rfl, HBK, hq⟩ := hrel
        by_cases hkl : k < N.length
        · obtain ⟨rfl, c2⟩ := HTC.out k hkl
          have HTK := Mx.hid (any_take (f := f a) hkl)
          have hkk : (k : Int) < (N.length : Int) := by omega
          generalize N[k] = t at *
          cases b with
          | true =>
            go_wp2_with fail
            refine wp_region_C (fun W' => St w4 W' [] []) (by kernel_rfl) (by kernel_rfl) (by exact hq.drew) ?_
            repeat ((first | (refine cq_y0 (v := ?_) (by with_reducible rfl) ?_ ?_; rotate_left 1; (focus (intro wq hq; (try dsimp only at hq); (have y1 := hq.keep c1; have y2 := hq.keep c2); go_simp; (first | done | with_reducible rfl | (go_at_call 13; refine (HIS.out _ _ _ hq).mono ?_; rintro e w9 ⟨rfl, hk9⟩; refine ⟨?_, hq.call0 hk9⟩; with_reducible rfl))))) | (refine cq_no (by go_simp; first | done | (intro h9; cases h9)) ?_) | (refine cq_yes (v := ?_) (by go_simp) ?_ ?_; rotate_left 1; (focus (intro wq hq; (try dsimp only at hq); (have y1 := hq.keep c1; have y2 := hq.keep c2); go_simp; (first | done | with_reducible rfl | (go_at_call 13; refine (HIS.out _ _ _ hq).mono ?_; rintro e w9 ⟨rfl, hk9⟩; refine ⟨?_, hq.call0 hk9⟩; with_reducible rfl)))))); (try simp only [Act.put, List.setIfInBounds_toArray, List.set_cons_zero, List.set_cons_succ]))
            refine cq_nil ?_
            intro wq hq
            (try dsimp only at hq)
            go_wp2_with fail
            refine ⟨⟨k + 1, true, by omega, rfl, by go_num, Mx.hid ?_, hq⟩, by simp [intOf]; omega⟩
            rw [HTK.out, ← HBK.out]
            rfl
          | false =>
            go_wp2_with fail
            refine wp_region_C (fun W' => St w4 W' [] []) (by kernel_rfl) (by kernel_rfl) (by exact hq.drew) ?_
            repeat ((first | (refine cq_y0 (v := ?_) (by with_reducible rfl) ?_ ?_; rotate_left 1; (focus (intro wq hq; (try dsimp only at hq); (have y1 := hq.keep c1; have y2 := hq.keep c2); go_simp; (first | done | with_reducible rfl | (go_at_call 13; refine (HIS.out _ _ _ hq).mono ?_; rintro e w9 ⟨rfl, hk9⟩; refine ⟨?_, hq.call0 hk9⟩; with_reducible rfl))))) | (refine cq_no (by go_simp; first | done | (intro h9; cases h9)) ?_) | (refine cq_yes (v := ?_) (by go_simp) ?_ ?_; rotate_left 1; (focus (intro wq hq; (try dsimp only at hq); (have y1 := hq.keep c1; have y2 := hq.keep c2); go_simp; (first | done | with_reducible rfl | (go_at_call 13; refine (HIS.out _ _ _ hq).mono ?_; rintro e w9 ⟨rfl, hk9⟩; refine ⟨?_, hq.call0 hk9⟩; with_reducible rfl)))))); (try simp only [Act.put, List.setIfInBounds_toArray, List.set_cons_zero, List.set_cons_succ]))
            refine cq_nil ?_
            intro wq hq
            (try dsimp only at hq)
            go_wp2_with fail
            refine ⟨⟨k + 1, f a t, by omega, rfl, by go_num, Mx.hid ?_, hq⟩, by simp [intOf]; omega⟩
            rw [HTK.out, ← HBK.out]
            rfl
        · have hkk : ¬ (k : Int) < (N.length : Int) := by omega
          have hbt : b = true := by have := HBK.out; rw [List.take_of_length_le (by omega), HANY.out] at this; exact this
          subst hbt
          go_wp2_with fail
          refine ⟨⟨i + 1, by omega, by go_num, hq⟩, by simp [intOf]; omega⟩
    · have hii : ¬ (i : Int) < (ids.length : Int) := by omega
      go_wp2_with fail
      clear hii hlt
      go_loopw [11, 12] (fun x y wr => ∃ i : Nat, i ≤ N.length ∧ x = .int .i64 i ∧ St w4 wr [] []) (fun x _ _ => N.length - (intOf x).toNat)
      case atStart => exact ⟨0, by omega, rfl, hq⟩
      case round =>
        clear hq hi
        obtain ⟨i, hi, rfl, hq⟩ := hrel
        by_cases hlt : i < N.length
        · obtain ⟨rfl, c1⟩ := HTC.out i hlt
          have hii : (i : Int) < (N.length : Int) := by omega
          have HOF := Mx.hid (hasT_iff.2 (HF.out.of _ (List.getElem_mem hlt)))
          have HSEP := Mx.hid (fun (k : Nat) (hk : k < N.length) (hne : i ≠ k) => HFF.out.2 _ (List.getElem_mem hlt) _ (List.getElem_mem hk) (fun h => hne ((List.getElem_inj HST.out.1).1 h)))
          have HH2 := Mx.hid (fun wx (hs : St w4 wx [] []) => HHS.out N[i] wx hs)
          rw [HOF.out] at HH2
          generalize N[i] = a at *
          go_wp2_with fail
          go_loopw [12] (fun y wr => ∃ k : Nat, k ≤ N.length ∧ y = .int .i64 k ∧ St w4 wr [] []) (fun y _ => N.length - (intOf y).toNat)
          case atStart => exact ⟨0, by omega, rfl, hq⟩
          case round =>
            clear hq
            obtain ⟨k, hk, rfl, hq⟩ := hrel
            by_cases hkl : k < N.length
            · obtain ⟨_, c2⟩ := HTC.out k hkl
              have hkk : (k : Int) < (N.length : Int) := by omega
              by_cases hik : i = k
              · have hne : ((i : Int) != (k : Int)) = false := by simp [hik]
                clear hik
                generalize N[k] = t at *
                go_wp2_with fail
                refine wp_region_C (fun W' => St w4 W' [] []) (by kernel_rfl) (by kernel_rfl) (by exact hq.drew) ?_
                repeat ((first | (refine cq_y0 (v := ?_) (by with_reducible rfl) ?_ ?_; rotate_left 1; (focus (intro wq hq; (try dsimp only at hq); (have y1 := hq.keep c1; have y2 := hq.keep c2); go_simp; (first | done | with_reducible rfl | (go_at_call 13; refine (HIS.out _ _ _ hq).mono ?_; rintro e w9 ⟨rfl, hk9⟩; refine ⟨?_, hq.call0 hk9⟩; with_reducible rfl) | (go_at_call 17; refine (HH2.out _ hq).mono ?_; rintro e w9 ⟨rfl, rfl⟩; refine ⟨?_, hq⟩; with_reducible rfl))))) | (refine cq_no (by go_simp; first | done | (intro h9; cases h9)) ?_) | (refine cq_yes (v := ?_) (by go_simp) ?_ ?_; rotate_left 1; (focus (intro wq hq; (try dsimp only at hq); (have y1 := hq.keep c1; have y2 := hq.keep c2); go_simp; (first | done | with_reducible rfl | (go_at_call 13; refine (HIS.out _ _ _ hq).mono ?_; rintro e w9 ⟨rfl, hk9⟩; refine ⟨?_, hq.call0 hk9⟩; with_reducible rfl) | (go_at_call 17; refine (HH2.out _ hq).mono ?_; rintro e w9 ⟨rfl, rfl⟩; refine ⟨?_, hq⟩; with_reducible rfl)))))); (try simp only [Act.put, List.setIfInBounds_toArray, List.set_cons_zero, List.set_cons_succ]))
                refine cq_nil ?_
                intro wq hq
                (try dsimp only at hq)
                go_wp2_with fail
                refine ⟨⟨k + 1, by omega, by go_num, hq⟩, by simp [intOf]; omega⟩
              · have hne : ((i : Int) != (k : Int)) = true := by simp; omega
                have HS1 := Mx.hid (HSEP.out k hkl hik)
                clear hik
                generalize N[k] = t at *
                have HI2 := Mx.hid (fun wx (hs : St w4 wx [] []) => HIS.out a t wx hs)
                rw [HS1.out] at HI2
                go_wp2_with fail
                refine wp_region_C (fun W' => St w4 W' [] []) (by kernel_rfl) (by kernel_rfl) (by exact hq.drew) ?_
                repeat ((first | (refine cq_y0 (v := ?_) (by with_reducible rfl) ?_ ?_; rotate_left 1; (focus (intro wq hq; (try dsimp only at hq); (have y1 := hq.keep c1; have y2 := hq.keep c2); go_simp; (first | done | with_reducible rfl | (go_at_call 13; refine (HI2.out _ hq).mono ?_; rintro e w9 ⟨rfl, hk9⟩; refine ⟨?_, hq.call0 hk9⟩; with_reducible rfl) | (go_at_call 17; refine (HH2.out _ hq).mono ?_; rintro e w9 ⟨rfl, rfl⟩; refine ⟨?_, hq⟩; with_reducible rfl))))) | (refine cq_no (by go_simp; first | done | (intro h9; cases h9)) ?_) | (refine cq_yes (v := ?_) (by go_simp) ?_ ?_; rotate_left 1; (focus (intro wq hq; (try dsimp only at hq); (have y1 := hq.keep c1; have y2 := hq.keep c2); go_simp; (first | done | with_reducible rfl | (go_at_call 13; refine (HI2.out _ hq).mono ?_; rintro e w9 ⟨rfl, hk9⟩; refine ⟨?_, hq.call0 hk9⟩; with_reducible rfl) | (go_at_call 17; refine (HH2.out _ hq).mono ?_; rintro e w9 ⟨rfl, rfl⟩; refine ⟨?_, hq⟩; with_reducible rfl)))))); (try simp only [Act.put, List.setIfInBounds_toArray, List.set_cons_zero, List.set_cons_succ]))
                refine cq_nil ?_
                intro wq hq
                (try dsimp only at hq)
                go_wp2_with fail
                refine ⟨⟨k + 1, by omega, by go_num, hq⟩, by simp [intOf]; omega⟩
            · have hkk : ¬ (k : Int) < (N.length : Int) := by omega
              go_wp2_with fail
              refine ⟨⟨i + 1, by omega, by go_num, hq⟩, by simp [intOf]; omega⟩
        · have hii : ¬ (i : Int) < (N.length : Int) := by omega
          have HT9 := Mx.hid (HAG.out _ hq)
          go_wp2_with fail
          refine HT9.out.mono ?_
          rintro e w5 (⟨vu, N', M', rfl, hs5, hst5, hnl5, hcl5, hne5⟩ | ⟨rfl, _, i, hi, hno⟩)
          · have HE := Mx.hid (HF.out.again M' N' hcl5 hne5 hst5)
            have hq5 := hq.call0 hs5.bare
            obtain ⟨ua, uc, rfl, _⟩ := id hs5.sl0.form
            have HU5 := Mx.hid hs5.sl0
            have hk := HK.out.call0 hq5
            have HQ5 := Mx.hid hq5
            have HTQ := Mx.hid (fun wx (hs : St w4 wx [] []) (h : Sl wx 1 (.slice ua N'.length uc) N'.length (ss N')) => texts_same _ _ N' N wx h (hs.old HT2.out) HE)
            clear hs5 hst5 hnl5 hcl5 hne5 hq HT9 hq5 hii hlt
            have hj : St w5 w5 [] [] := St.refl w5
            go_wp2_with (first | ((with_reducible show wpList _ _ _ _ _ _); refine wpl_want rfl ?_) | (go_at_call 8; refine (first_g _).mono ?_; rintro e w9 ⟨rfl, h9⟩; replace hk := hk.call0 h9; replace hj := hj.call0 h9) | (go_at_call 12; refine (HTQ.out _ (HQ5.out.call0 hj) (hj.old HU5.out)).mono ?_; rintro e w9 ⟨rfl, h9⟩; replace hk := hk.call0 h9; replace hj := hj.call0 h9))
            go_ret
            exact ⟨rfl, hk.below⟩
          · exfalso
            obtain ⟨n, hn⟩ := HF.out.isin i hi
            rw [hn] at hno
            cases hno
end Go.Proofs.Ytojbdlbcaoeffaa
