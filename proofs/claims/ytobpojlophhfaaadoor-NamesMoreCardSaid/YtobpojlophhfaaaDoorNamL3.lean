/- Walk of the law NamesMore: it returns true and leaves what was there as it was. -/
import Derived.Test.YtobpojlophhfaaaDoorNamF
namespace Go.Mx
open Go Go.RowKit
theorem ign_one (n : List UInt8) (s : List UInt8) : ignB [n] s = outB n (namesL s) := by
  unfold ignB
  simp
theorem names_nameB {s : List UInt8} {i : Nat} (hi : i < (namesL s).length) : nameB (namesL s)[i] = true := by
  cases h : pathB s with
  | false => rw [names_not h] at hi; simp at hi
  | true =>
    have hg := (join_names h).2
    unfold goodB at hg
    simp only [Bool.and_eq_true] at hg
    exact List.all_eq_true.1 hg.1.2 _ (List.getElem_mem hi)
theorem star_free {n : List UInt8} (h : (pcs 42 0 n).length = 1) : (42 : UInt8) ∉ n := by
  rw [pcs_len] at h
  exact List.count_eq_zero.1 (by omega)
theorem names_leave {s t : List UInt8} : ∀ i (hi : i < (namesL s).length), patB (namesL s)[i] = true → (pcs 42 0 (namesL s)[i]).length = 1 →
    ignB [(namesL s)[i]] s = true ∧ (i + 1 < (namesL s).length → ignB [(namesL s)[i] ++ [47]] s = true) ∧ (underB s t = true → ignB [(namesL s)[i]] t = true) := by
  intro i hi hp hst
  have h47 := name_no (names_nameB hi)
  have h42 := star_free hst
  refine ⟨?_, fun h => ?_, fun h => ?_⟩
  · rw [ign_one]
    exact out_self hp h42 h47 (List.getElem_mem hi)
  · rw [ign_one]
    exact out_dir hp h42 h47 h rfl
  · rw [ign_one]
    obtain ⟨M, hM⟩ := under_names h
    exact out_self hp h42 h47 (by rw [hM]; exact List.mem_append_left _ (List.getElem_mem hi))
end Go.Mx
namespace Go.Proofs.YtobpojlophhfaaaDoor
open Go.RowKit Go.Mx

set_option maxRecDepth 200000 in
set_option maxHeartbeats 4000000 in
theorem namesMoreRow {w : World} (v : Value) (l : List ByteArray) (hv : Sl w 1 v l.length (ss l)) (_hl : ∀ x ∈ l, x.size ≤ maxLen) (v2 : Value) (m : List ByteArray) (hv2 : Sl w 1 v2 m.length (ss m)) (_hl2 : ∀ x ∈ m, x.size ≤ maxLen) (s : ByteArray) (hs : s.size ≤ maxLen) (t : ByteArray) (ht : t.size ≤ maxLen) (_w : World) :
    Calls Tryd.prog 7 #[v, v2, .string s, .string t] w fun e w' => e = .returned (.bool true) ∧ Below w.heap.size w w' := by
  have HV := Mx.hid hv
  have HV2 := Mx.hid hv2
  obtain ⟨ao, cap, rfl, h1, h2, _⟩ := hv.form
  obtain ⟨ao2, cap2, rfl, h12, h22, _⟩ := hv2.form
  unfold maxLen at h2 h22
  have HSP := Mx.hid (fun wx => split_n s wx hs)
  have HU := Mx.hid (fun wx => under_any s t wx hs ht)
  have HIG := Mx.hid (fun v l wx h hz => ignored_n v l s wx h hz hs)
  have HIGT := Mx.hid (fun v l wx h hz => ignored_n v l t wx h hz ht)
  clear hv hv2 _hl _hl2 hs ht
  go_enter Tryd.func7, Tryd.ntmps7
  go_wp2_with fail
  refine (first_any _).mono ?_
  rintro e w1 ⟨rfl, hk⟩
  go_wp2_with (first | ((with_reducible show wpList _ _ _ _ _ _); refine wpl_want rfl ?_))
  refine (few_any _ l _ (hk.old HV.out)).mono ?_
  rintro e w2 ⟨⟨b, rfl, hfew⟩, rfl⟩
  cases b with
  | false =>
    clear hfew
    go_wp2_with (first | ((with_reducible show wpList _ _ _ _ _ _); refine wpl_want rfl ?_) | (go_at_call 19; refine (first_any _).mono ?_; rintro e w9 ⟨rfl, h9⟩; replace hk := hk.call0 h9))
    go_ret
    exact ⟨rfl, hk.below⟩
  | true =>
  obtain ⟨hl100, hl5⟩ := hfew rfl
  clear hfew
  go_wp2_with (first | ((with_reducible show wpList _ _ _ _ _ _); refine wpl_want rfl ?_))
  refine (few_any _ m _ (hk.old HV2.out)).mono ?_
  rintro e w2 ⟨⟨b, rfl, hfew⟩, rfl⟩
  cases b with
  | false =>
    clear hfew hl5
    go_wp2_with (first | ((with_reducible show wpList _ _ _ _ _ _); refine wpl_want rfl ?_) | (go_at_call 19; refine (first_any _).mono ?_; rintro e w9 ⟨rfl, h9⟩; replace hk := hk.call0 h9))
    go_ret
    exact ⟨rfl, hk.below⟩
  | true =>
  obtain ⟨hm100, hm5⟩ := hfew rfl
  clear hfew
  by_cases h3 : 1000 < s.size
  · have q : decide ((1000 : Int) < (s.size : Int)) = true := decide_eq_true (by omega)
    clear h3 hl5 hm5
    go_wp2_with (first | ((with_reducible show wpList _ _ _ _ _ _); refine wpl_want rfl ?_) | (go_at_call 19; refine (first_any _).mono ?_; rintro e w9 ⟨rfl, h9⟩; replace hk := hk.call0 h9))
    go_ret
    exact ⟨rfl, hk.below⟩
  have q : decide ((1000 : Int) < (s.size : Int)) = false := decide_eq_false (by omega)
  by_cases h4 : 1000 < t.size
  · have q2 : decide ((1000 : Int) < (t.size : Int)) = true := decide_eq_true (by omega)
    clear h3 h4 hl5 hm5
    go_wp2_with (first | ((with_reducible show wpList _ _ _ _ _ _); refine wpl_want rfl ?_) | (go_at_call 19; refine (first_any _).mono ?_; rintro e w9 ⟨rfl, h9⟩; replace hk := hk.call0 h9))
    go_ret
    exact ⟨rfl, hk.below⟩
  have q2 : decide ((1000 : Int) < (t.size : Int)) = false := decide_eq_false (by omega)
  clear h3 h4
  have HI1 := Mx.hid (fun wx h => HIG.out (.slice ao l.length cap) l wx h (fun x hx => by have := hl5 x hx; unfold maxLen; omega))
  have HI2 := Mx.hid (fun wx h => HIG.out (.slice ao2 m.length cap2) m wx h (fun x hx => by have := hm5 x hx; unfold maxLen; omega))
  have HI3 := Mx.hid (fun v wx h => HIG.out v (l ++ m) wx h (fun x hx => by
    rcases List.mem_append.1 hx with hx | hx
    · have := hl5 x hx; unfold maxLen; omega
    · have := hm5 x hx; unfold maxLen; omega))
  have HI0 := Mx.hid (fun wx => HIG.out (.slice none 0 0) [] wx (Sl.nil _ _) (by simp))
  rw [show ignB (List.map bL []) (bL s) = false from rfl] at HI0
  rw [List.map_append, ign_app] at HI3
  have HCT := Mx.hid (fun wx (h : Sl wx 1 (.slice ao l.length cap) l.length (ss l)) => copyTexts_any _ l wx h (by omega))
  clear hl5 hm5
  generalize ignB (l.map bL) (bL s) = r1 at *
  generalize ignB (m.map bL) (bL s) = r2 at *
  go_wp2_with fail
  refine (HCT.out _ (hk.old HV.out)).mono ?_
  rintro e w3 ⟨vi, rfl, h9⟩
  obtain ⟨va, vc, rfl, _⟩ := id h9.sl0
  replace hk := hk.call1 h9
  clear h9
  go_wp2_with (at_builtin; refine wpl_app rfl _ _ 24 rfl Tryd.elStr hk rfl (by exact hk.old HV2.out) (ss_one _) (by omega) ?_; intro vb w4 hk4 _)
  replace hk := hk4.freeze
  clear hk4
  simp only [] at hk
  obtain ⟨ba, bc, rfl, _⟩ := id hk.q0
  have HLM := Mx.hid (show (l ++ m).length = l.length + m.length from List.length_append ..)
  replace HI3 : Hid (∀ v wx, Sl wx 1 v (l.length + m.length) (ss l ++ ss m) → Calls Tryd.prog 21 #[v, .string s] wx fun e w' => e = .returned (.bool (r1 || r2)) ∧ St wx w' [] []) := fun v wx h => HI3.out v wx (by rw [HLM.out, ss_app]; exact h)
  have HNF := Mx.hid (names_leave (s := bL s) (t := bL t))
  have HL8 := Mx.hid (names_le8 (bL s))
  have HLX := Mx.hid (fun p (h : p ∈ namesL (bL s)) => names_mem_le h)
  generalize namesL (bL s) = L at *
  generalize underB (bL s) (bL t) = u at *
  clear HIG
  have HIG := Mx.hid (fun v l wx h hz => ignored_n v l s wx h hz (by unfold maxLen; have := of_decide_eq_false q; omega))
  cases r1 with
  | true =>
    go_wp2_with fail
    refine (HI3.out _ _ hk.q0).mono ?_
    rintro e w5 ⟨rfl, h9⟩
    replace hk := hk.call0 h9
    clear h9 HI3 HCT
    go_wp2_with (first | ((with_reducible show wpList _ _ _ _ _ _); refine wpl_want rfl ?_) | (go_at_call 21; (with_reducible show Calls _ _ #[Value.slice ao _ _, _] _ _); refine (HI1.out _ (hk.old HV.out)).mono ?_; rintro e w9 ⟨rfl, h9⟩; replace hk := hk.call0 h9) | (go_at_call 21; (with_reducible show Calls _ _ #[Value.slice ao2 _ _, _] _ _); refine (HI2.out _ (hk.old HV2.out)).mono ?_; rintro e w9 ⟨rfl, h9⟩; replace hk := hk.call0 h9) | (go_at_call 21; (with_reducible show Calls _ _ #[Value.slice none 0 0, _] _ _); refine (HI0.out _).mono ?_; rintro e w9 ⟨rfl, h9⟩; replace hk := hk.call0 h9) | (go_at_call 34; refine (HSP.out _).mono ?_; rintro e w6 ⟨vp, rfl, h6⟩; obtain ⟨pa, pc, rfl, l1, l2, _⟩ := id h6.sl0; unfold maxLen at l2; replace hk := (hk.noQ.call1 h6).freeze; simp only [] at hk; clear h6))
    clear HI1 HI2 HI0
    go_loopw [11] (fun y wr => ∃ i : Nat, i ≤ L.length ∧ y = .int .i64 i ∧ St w wr [] [⟨.slice pa L.length pc, 1, L.length, ss (tx L)⟩]) (fun y _ => L.length - (intOf y).toNat)
    case atStart => exact ⟨0, by omega, rfl, hk⟩
    case round =>
      clear hk
      obtain ⟨i, hi, rfl, hk⟩ := hrel
      have hl8 := HL8.out
      by_cases hlt : i < L.length
      · obtain ⟨blk, off, rfl, c0⟩ := txt_at' hk.q0 i hlt
        have hxz : (str L[i]).size ≤ 200 := by rw [str_size]; exact HLX.out L[i] (List.getElem_mem hlt)
        have HPT := Mx.hid (fun wx => pattern_n (str L[i]) wx (by unfold maxLen; omega))
        have HK := Mx.hid (fun wx => refCut42 (str L[i]) wx (by omega))
        have HO0 := Mx.hid (fun v wx (h : Sl wx 1 v 1 [.string (str L[i])]) => HIG.out v [str L[i]] wx h (fun x hx => by obtain rfl := List.mem_singleton.1 hx; unfold maxLen; omega))
        have HD0 := Mx.hid (fun v wx (h : Sl wx 1 v 1 [.string (str L[i] ++ ⟨#[47]⟩)]) => HIG.out v [str L[i] ++ (⟨#[47]⟩ : ByteArray)] wx h (fun x hx => by obtain rfl := List.mem_singleton.1 hx; rw [bytes_app_size]; show (str L[i]).size + 1 ≤ maxLen; unfold maxLen; omega))
        have HT0 := Mx.hid (fun v wx (h : Sl wx 1 v 1 [.string (str L[i])]) => HIGT.out v [str L[i]] wx h (fun x hx => by obtain rfl := List.mem_singleton.1 hx; unfold maxLen; omega))
        rw [show List.map bL [str L[i]] = [L[i]] by rw [List.map_cons, bL_str]; rfl] at HO0 HT0
        rw [show List.map bL [str L[i] ++ (⟨#[47]⟩ : ByteArray)] = [L[i] ++ [47]] by rw [List.map_cons, bl_cat, bL_str]; rfl] at HD0
        rw [bL_str] at HPT HK
        have HN := Mx.hid (HNF.out i hlt)
        have hm := hk.made #[.string (str L[i])] 9 1 1 (by rfl) (by simp [maxLen])
        have hm2 := hm.madeAt #[.string (str L[i] ++ ⟨#[47]⟩)] 9 1 1 (wr.heap.size + 1) (by rfl) (by simp [maxLen]) (heap_size_alloc _ _).symm
        cases hp : patB L[i] with
        | false =>
          rw [hp] at HPT
          clear hp HN HO0 HD0 HT0 HK
          generalize str L[i] = x at *
          replace hk := hm2
          clear hm hm2
          have c1 := ((St.refl wr).alloc (.cells #[.string x] 9)).keep c0
          have c2 := (((St.refl wr).alloc (.cells #[.string x] 9)).alloc (.cells #[.string (x ++ ⟨#[47]⟩)] 9)).keep c0
          go_wp2_with (first | ((with_reducible show wpList _ _ _ _ _ _); refine wpl_want rfl ?_) | (go_at_call 23; refine (HPT.out _).mono ?_; rintro e w9 ⟨rfl, rfl⟩) | (go_at_call 36; refine (HK.out _).mono ?_; rintro e w9 ⟨vk, rfl, h9⟩; obtain ⟨ka, kc, rfl, _⟩ := id h9.sl0; replace hk := hk.call0 h9.bare) | (go_at_call 21; (with_reducible show Calls _ _ #[Value.slice (some ⟨wr.heap.size, 0, none⟩) 1 1, Value.string s] _ _); refine (HO0.out _ _ hk.sl1).mono ?_; rintro e w9 ⟨rfl, h9⟩; replace hk := hk.call0 h9) | (go_at_call 21; (with_reducible show Calls _ _ #[_, Value.string s] _ _); refine (HD0.out _ _ hk.sl0).mono ?_; rintro e w9 ⟨rfl, h9⟩; replace hk := hk.call0 h9) | (go_at_call 21; (with_reducible show Calls _ _ #[_, Value.string t] _ _); refine (HT0.out _ _ hk.sl1).mono ?_; rintro e w9 ⟨rfl, h9⟩; replace hk := hk.call0 h9) | (go_at_call 25; refine (HU.out _).mono ?_; rintro e w9 ⟨rfl, h9⟩; replace hk := hk.call0 h9))
          go_roundw
          case rel => exact ⟨i + 1, by omega, by go_num, hk.tail.tail⟩
          case measure => simp [intOf]; omega
        | true =>
          by_cases hst : (pcs 42 0 L[i]).length = 1
          · obtain ⟨hn1, hn2, hn3⟩ := HN.out hp hst
            rw [hp] at HPT
            rw [hst] at HK
            rw [hn1] at HO0
            clear hp HN hn1 hst
            by_cases hi1 : i + 1 < L.length
            · have q9 : decide ((i : Int) < (L.length : Int) - 1) = true := decide_eq_true (by omega)
              rw [hn2 hi1] at HD0
              cases u with
              | true =>
                rw [hn3 rfl] at HT0
                clear hn2 hn3
                generalize ((pcs 42 0 L[i]).length) = z at *
                generalize str L[i] = x at *
                replace hk := hm2
                clear hm hm2
                have c1 := ((St.refl wr).alloc (.cells #[.string x] 9)).keep c0
                have c2 := (((St.refl wr).alloc (.cells #[.string x] 9)).alloc (.cells #[.string (x ++ ⟨#[47]⟩)] 9)).keep c0
                go_wp2_with (first | ((with_reducible show wpList _ _ _ _ _ _); refine wpl_want rfl ?_) | (go_at_call 23; refine (HPT.out _).mono ?_; rintro e w9 ⟨rfl, rfl⟩) | (go_at_call 36; refine (HK.out _).mono ?_; rintro e w9 ⟨vk, rfl, h9⟩; obtain ⟨ka, kc, rfl, _⟩ := id h9.sl0; replace hk := hk.call0 h9.bare) | (go_at_call 21; (with_reducible show Calls _ _ #[Value.slice (some ⟨wr.heap.size, 0, none⟩) 1 1, Value.string s] _ _); refine (HO0.out _ _ hk.sl1).mono ?_; rintro e w9 ⟨rfl, h9⟩; replace hk := hk.call0 h9) | (go_at_call 21; (with_reducible show Calls _ _ #[_, Value.string s] _ _); refine (HD0.out _ _ hk.sl0).mono ?_; rintro e w9 ⟨rfl, h9⟩; replace hk := hk.call0 h9) | (go_at_call 21; (with_reducible show Calls _ _ #[_, Value.string t] _ _); refine (HT0.out _ _ hk.sl1).mono ?_; rintro e w9 ⟨rfl, h9⟩; replace hk := hk.call0 h9) | (go_at_call 25; refine (HU.out _).mono ?_; rintro e w9 ⟨rfl, h9⟩; replace hk := hk.call0 h9))
                go_roundw
                case rel => exact ⟨i + 1, by omega, by go_num, hk.tail.tail⟩
                case measure => simp [intOf]; omega
              | false =>
                clear hn2 hn3 HT0
                generalize ((pcs 42 0 L[i]).length) = z at *
                generalize str L[i] = x at *
                replace hk := hm2
                clear hm hm2
                have c1 := ((St.refl wr).alloc (.cells #[.string x] 9)).keep c0
                have c2 := (((St.refl wr).alloc (.cells #[.string x] 9)).alloc (.cells #[.string (x ++ ⟨#[47]⟩)] 9)).keep c0
                go_wp2_with (first | ((with_reducible show wpList _ _ _ _ _ _); refine wpl_want rfl ?_) | (go_at_call 23; refine (HPT.out _).mono ?_; rintro e w9 ⟨rfl, rfl⟩) | (go_at_call 36; refine (HK.out _).mono ?_; rintro e w9 ⟨vk, rfl, h9⟩; obtain ⟨ka, kc, rfl, _⟩ := id h9.sl0; replace hk := hk.call0 h9.bare) | (go_at_call 21; (with_reducible show Calls _ _ #[Value.slice (some ⟨wr.heap.size, 0, none⟩) 1 1, Value.string s] _ _); refine (HO0.out _ _ hk.sl1).mono ?_; rintro e w9 ⟨rfl, h9⟩; replace hk := hk.call0 h9) | (go_at_call 21; (with_reducible show Calls _ _ #[_, Value.string s] _ _); refine (HD0.out _ _ hk.sl0).mono ?_; rintro e w9 ⟨rfl, h9⟩; replace hk := hk.call0 h9) | (go_at_call 21; (with_reducible show Calls _ _ #[_, Value.string t] _ _); refine (HT0.out _ _ hk.sl1).mono ?_; rintro e w9 ⟨rfl, h9⟩; replace hk := hk.call0 h9) | (go_at_call 25; refine (HU.out _).mono ?_; rintro e w9 ⟨rfl, h9⟩; replace hk := hk.call0 h9))
                go_roundw
                case rel => exact ⟨i + 1, by omega, by go_num, hk.tail.tail⟩
                case measure => simp [intOf]; omega
            · have q9 : decide ((i : Int) < (L.length : Int) - 1) = false := decide_eq_false (by omega)
              clear hi1 HD0
              cases u with
              | true =>
                rw [hn3 rfl] at HT0
                clear hn2 hn3
                generalize ((pcs 42 0 L[i]).length) = z at *
                generalize str L[i] = x at *
                replace hk := hm2
                clear hm hm2
                have c1 := ((St.refl wr).alloc (.cells #[.string x] 9)).keep c0
                have c2 := (((St.refl wr).alloc (.cells #[.string x] 9)).alloc (.cells #[.string (x ++ ⟨#[47]⟩)] 9)).keep c0
                go_wp2_with (first | ((with_reducible show wpList _ _ _ _ _ _); refine wpl_want rfl ?_) | (go_at_call 23; refine (HPT.out _).mono ?_; rintro e w9 ⟨rfl, rfl⟩) | (go_at_call 36; refine (HK.out _).mono ?_; rintro e w9 ⟨vk, rfl, h9⟩; obtain ⟨ka, kc, rfl, _⟩ := id h9.sl0; replace hk := hk.call0 h9.bare) | (go_at_call 21; (with_reducible show Calls _ _ #[Value.slice (some ⟨wr.heap.size, 0, none⟩) 1 1, Value.string s] _ _); refine (HO0.out _ _ hk.sl1).mono ?_; rintro e w9 ⟨rfl, h9⟩; replace hk := hk.call0 h9) | (go_at_call 21; (with_reducible show Calls _ _ #[_, Value.string s] _ _); refine (HD0.out _ _ hk.sl0).mono ?_; rintro e w9 ⟨rfl, h9⟩; replace hk := hk.call0 h9) | (go_at_call 21; (with_reducible show Calls _ _ #[_, Value.string t] _ _); refine (HT0.out _ _ hk.sl1).mono ?_; rintro e w9 ⟨rfl, h9⟩; replace hk := hk.call0 h9) | (go_at_call 25; refine (HU.out _).mono ?_; rintro e w9 ⟨rfl, h9⟩; replace hk := hk.call0 h9))
                go_roundw
                case rel => exact ⟨i + 1, by omega, by go_num, hk.tail.tail⟩
                case measure => simp [intOf]; omega
              | false =>
                clear hn2 hn3 HT0
                generalize ((pcs 42 0 L[i]).length) = z at *
                generalize str L[i] = x at *
                replace hk := hm2
                clear hm hm2
                have c1 := ((St.refl wr).alloc (.cells #[.string x] 9)).keep c0
                have c2 := (((St.refl wr).alloc (.cells #[.string x] 9)).alloc (.cells #[.string (x ++ ⟨#[47]⟩)] 9)).keep c0
                go_wp2_with (first | ((with_reducible show wpList _ _ _ _ _ _); refine wpl_want rfl ?_) | (go_at_call 23; refine (HPT.out _).mono ?_; rintro e w9 ⟨rfl, rfl⟩) | (go_at_call 36; refine (HK.out _).mono ?_; rintro e w9 ⟨vk, rfl, h9⟩; obtain ⟨ka, kc, rfl, _⟩ := id h9.sl0; replace hk := hk.call0 h9.bare) | (go_at_call 21; (with_reducible show Calls _ _ #[Value.slice (some ⟨wr.heap.size, 0, none⟩) 1 1, Value.string s] _ _); refine (HO0.out _ _ hk.sl1).mono ?_; rintro e w9 ⟨rfl, h9⟩; replace hk := hk.call0 h9) | (go_at_call 21; (with_reducible show Calls _ _ #[_, Value.string s] _ _); refine (HD0.out _ _ hk.sl0).mono ?_; rintro e w9 ⟨rfl, h9⟩; replace hk := hk.call0 h9) | (go_at_call 21; (with_reducible show Calls _ _ #[_, Value.string t] _ _); refine (HT0.out _ _ hk.sl1).mono ?_; rintro e w9 ⟨rfl, h9⟩; replace hk := hk.call0 h9) | (go_at_call 25; refine (HU.out _).mono ?_; rintro e w9 ⟨rfl, h9⟩; replace hk := hk.call0 h9))
                go_roundw
                case rel => exact ⟨i + 1, by omega, by go_num, hk.tail.tail⟩
                case measure => simp [intOf]; omega
          · have q9 : (((pcs 42 0 L[i]).length : Int) == 1) = false := by rw [beq_eq_false_iff_ne]; omega
            rw [hp] at HPT
            clear hp HN HO0 HD0 HT0 hst
            generalize ((pcs 42 0 L[i]).length) = z at *
            generalize str L[i] = x at *
            replace hk := hm2
            clear hm hm2
            have c1 := ((St.refl wr).alloc (.cells #[.string x] 9)).keep c0
            have c2 := (((St.refl wr).alloc (.cells #[.string x] 9)).alloc (.cells #[.string (x ++ ⟨#[47]⟩)] 9)).keep c0
            go_wp2_with (first | ((with_reducible show wpList _ _ _ _ _ _); refine wpl_want rfl ?_) | (go_at_call 23; refine (HPT.out _).mono ?_; rintro e w9 ⟨rfl, rfl⟩) | (go_at_call 36; refine (HK.out _).mono ?_; rintro e w9 ⟨vk, rfl, h9⟩; obtain ⟨ka, kc, rfl, _⟩ := id h9.sl0; replace hk := hk.call0 h9.bare) | (go_at_call 21; (with_reducible show Calls _ _ #[Value.slice (some ⟨wr.heap.size, 0, none⟩) 1 1, Value.string s] _ _); refine (HO0.out _ _ hk.sl1).mono ?_; rintro e w9 ⟨rfl, h9⟩; replace hk := hk.call0 h9) | (go_at_call 21; (with_reducible show Calls _ _ #[_, Value.string s] _ _); refine (HD0.out _ _ hk.sl0).mono ?_; rintro e w9 ⟨rfl, h9⟩; replace hk := hk.call0 h9) | (go_at_call 21; (with_reducible show Calls _ _ #[_, Value.string t] _ _); refine (HT0.out _ _ hk.sl1).mono ?_; rintro e w9 ⟨rfl, h9⟩; replace hk := hk.call0 h9) | (go_at_call 25; refine (HU.out _).mono ?_; rintro e w9 ⟨rfl, h9⟩; replace hk := hk.call0 h9))
            go_roundw
            case rel => exact ⟨i + 1, by omega, by go_num, hk.tail.tail⟩
            case measure => simp [intOf]; omega
      · have hge : (L.length : Int) ≤ (i : Int) := by omega
        clear hlt
        go_wp2_with (first | ((with_reducible show wpList _ _ _ _ _ _); refine wpl_want rfl ?_) | (go_at_call 19; refine (first_any _).mono ?_; rintro e w9 ⟨rfl, h9⟩; replace hk := hk.call0 h9))
        go_ret
        exact ⟨rfl, hk.below⟩
  | false =>
    go_wp2_with fail
    refine (HI3.out _ _ hk.q0).mono ?_
    rintro e w5 ⟨rfl, h9⟩
    replace hk := hk.call0 h9
    clear h9 HI3 HCT
    go_wp2_with (first | ((with_reducible show wpList _ _ _ _ _ _); refine wpl_want rfl ?_) | (go_at_call 21; (with_reducible show Calls _ _ #[Value.slice ao _ _, _] _ _); refine (HI1.out _ (hk.old HV.out)).mono ?_; rintro e w9 ⟨rfl, h9⟩; replace hk := hk.call0 h9) | (go_at_call 21; (with_reducible show Calls _ _ #[Value.slice ao2 _ _, _] _ _); refine (HI2.out _ (hk.old HV2.out)).mono ?_; rintro e w9 ⟨rfl, h9⟩; replace hk := hk.call0 h9) | (go_at_call 21; (with_reducible show Calls _ _ #[Value.slice none 0 0, _] _ _); refine (HI0.out _).mono ?_; rintro e w9 ⟨rfl, h9⟩; replace hk := hk.call0 h9) | (go_at_call 34; refine (HSP.out _).mono ?_; rintro e w6 ⟨vp, rfl, h6⟩; obtain ⟨pa, pc, rfl, l1, l2, _⟩ := id h6.sl0; unfold maxLen at l2; replace hk := (hk.noQ.call1 h6).freeze; simp only [] at hk; clear h6))
    clear HI1 HI2 HI0
    go_loopw [11] (fun y wr => ∃ i : Nat, i ≤ L.length ∧ y = .int .i64 i ∧ St w wr [] [⟨.slice pa L.length pc, 1, L.length, ss (tx L)⟩]) (fun y _ => L.length - (intOf y).toNat)
    case atStart => exact ⟨0, by omega, rfl, hk⟩
    case round =>
      clear hk
      obtain ⟨i, hi, rfl, hk⟩ := hrel
      have hl8 := HL8.out
      by_cases hlt : i < L.length
      · obtain ⟨blk, off, rfl, c0⟩ := txt_at' hk.q0 i hlt
        have hxz : (str L[i]).size ≤ 200 := by rw [str_size]; exact HLX.out L[i] (List.getElem_mem hlt)
        have HPT := Mx.hid (fun wx => pattern_n (str L[i]) wx (by unfold maxLen; omega))
        have HK := Mx.hid (fun wx => refCut42 (str L[i]) wx (by omega))
        have HO0 := Mx.hid (fun v wx (h : Sl wx 1 v 1 [.string (str L[i])]) => HIG.out v [str L[i]] wx h (fun x hx => by obtain rfl := List.mem_singleton.1 hx; unfold maxLen; omega))
        have HD0 := Mx.hid (fun v wx (h : Sl wx 1 v 1 [.string (str L[i] ++ ⟨#[47]⟩)]) => HIG.out v [str L[i] ++ (⟨#[47]⟩ : ByteArray)] wx h (fun x hx => by obtain rfl := List.mem_singleton.1 hx; rw [bytes_app_size]; show (str L[i]).size + 1 ≤ maxLen; unfold maxLen; omega))
        have HT0 := Mx.hid (fun v wx (h : Sl wx 1 v 1 [.string (str L[i])]) => HIGT.out v [str L[i]] wx h (fun x hx => by obtain rfl := List.mem_singleton.1 hx; unfold maxLen; omega))
        rw [show List.map bL [str L[i]] = [L[i]] by rw [List.map_cons, bL_str]; rfl] at HO0 HT0
        rw [show List.map bL [str L[i] ++ (⟨#[47]⟩ : ByteArray)] = [L[i] ++ [47]] by rw [List.map_cons, bl_cat, bL_str]; rfl] at HD0
        rw [bL_str] at HPT HK
        have HN := Mx.hid (HNF.out i hlt)
        have hm := hk.made #[.string (str L[i])] 9 1 1 (by rfl) (by simp [maxLen])
        have hm2 := hm.madeAt #[.string (str L[i] ++ ⟨#[47]⟩)] 9 1 1 (wr.heap.size + 1) (by rfl) (by simp [maxLen]) (heap_size_alloc _ _).symm
        cases hp : patB L[i] with
        | false =>
          rw [hp] at HPT
          clear hp HN HO0 HD0 HT0 HK
          generalize str L[i] = x at *
          replace hk := hm2
          clear hm hm2
          have c1 := ((St.refl wr).alloc (.cells #[.string x] 9)).keep c0
          have c2 := (((St.refl wr).alloc (.cells #[.string x] 9)).alloc (.cells #[.string (x ++ ⟨#[47]⟩)] 9)).keep c0
          go_wp2_with (first | ((with_reducible show wpList _ _ _ _ _ _); refine wpl_want rfl ?_) | (go_at_call 23; refine (HPT.out _).mono ?_; rintro e w9 ⟨rfl, rfl⟩) | (go_at_call 36; refine (HK.out _).mono ?_; rintro e w9 ⟨vk, rfl, h9⟩; obtain ⟨ka, kc, rfl, _⟩ := id h9.sl0; replace hk := hk.call0 h9.bare) | (go_at_call 21; (with_reducible show Calls _ _ #[Value.slice (some ⟨wr.heap.size, 0, none⟩) 1 1, Value.string s] _ _); refine (HO0.out _ _ hk.sl1).mono ?_; rintro e w9 ⟨rfl, h9⟩; replace hk := hk.call0 h9) | (go_at_call 21; (with_reducible show Calls _ _ #[_, Value.string s] _ _); refine (HD0.out _ _ hk.sl0).mono ?_; rintro e w9 ⟨rfl, h9⟩; replace hk := hk.call0 h9) | (go_at_call 21; (with_reducible show Calls _ _ #[_, Value.string t] _ _); refine (HT0.out _ _ hk.sl1).mono ?_; rintro e w9 ⟨rfl, h9⟩; replace hk := hk.call0 h9) | (go_at_call 25; refine (HU.out _).mono ?_; rintro e w9 ⟨rfl, h9⟩; replace hk := hk.call0 h9))
          go_roundw
          case rel => exact ⟨i + 1, by omega, by go_num, hk.tail.tail⟩
          case measure => simp [intOf]; omega
        | true =>
          by_cases hst : (pcs 42 0 L[i]).length = 1
          · obtain ⟨hn1, hn2, hn3⟩ := HN.out hp hst
            rw [hp] at HPT
            rw [hst] at HK
            rw [hn1] at HO0
            clear hp HN hn1 hst
            by_cases hi1 : i + 1 < L.length
            · have q9 : decide ((i : Int) < (L.length : Int) - 1) = true := decide_eq_true (by omega)
              rw [hn2 hi1] at HD0
              cases u with
              | true =>
                rw [hn3 rfl] at HT0
                clear hn2 hn3
                generalize ((pcs 42 0 L[i]).length) = z at *
                generalize str L[i] = x at *
                replace hk := hm2
                clear hm hm2
                have c1 := ((St.refl wr).alloc (.cells #[.string x] 9)).keep c0
                have c2 := (((St.refl wr).alloc (.cells #[.string x] 9)).alloc (.cells #[.string (x ++ ⟨#[47]⟩)] 9)).keep c0
                go_wp2_with (first | ((with_reducible show wpList _ _ _ _ _ _); refine wpl_want rfl ?_) | (go_at_call 23; refine (HPT.out _).mono ?_; rintro e w9 ⟨rfl, rfl⟩) | (go_at_call 36; refine (HK.out _).mono ?_; rintro e w9 ⟨vk, rfl, h9⟩; obtain ⟨ka, kc, rfl, _⟩ := id h9.sl0; replace hk := hk.call0 h9.bare) | (go_at_call 21; (with_reducible show Calls _ _ #[Value.slice (some ⟨wr.heap.size, 0, none⟩) 1 1, Value.string s] _ _); refine (HO0.out _ _ hk.sl1).mono ?_; rintro e w9 ⟨rfl, h9⟩; replace hk := hk.call0 h9) | (go_at_call 21; (with_reducible show Calls _ _ #[_, Value.string s] _ _); refine (HD0.out _ _ hk.sl0).mono ?_; rintro e w9 ⟨rfl, h9⟩; replace hk := hk.call0 h9) | (go_at_call 21; (with_reducible show Calls _ _ #[_, Value.string t] _ _); refine (HT0.out _ _ hk.sl1).mono ?_; rintro e w9 ⟨rfl, h9⟩; replace hk := hk.call0 h9) | (go_at_call 25; refine (HU.out _).mono ?_; rintro e w9 ⟨rfl, h9⟩; replace hk := hk.call0 h9))
                go_roundw
                case rel => exact ⟨i + 1, by omega, by go_num, hk.tail.tail⟩
                case measure => simp [intOf]; omega
              | false =>
                clear hn2 hn3 HT0
                generalize ((pcs 42 0 L[i]).length) = z at *
                generalize str L[i] = x at *
                replace hk := hm2
                clear hm hm2
                have c1 := ((St.refl wr).alloc (.cells #[.string x] 9)).keep c0
                have c2 := (((St.refl wr).alloc (.cells #[.string x] 9)).alloc (.cells #[.string (x ++ ⟨#[47]⟩)] 9)).keep c0
                go_wp2_with (first | ((with_reducible show wpList _ _ _ _ _ _); refine wpl_want rfl ?_) | (go_at_call 23; refine (HPT.out _).mono ?_; rintro e w9 ⟨rfl, rfl⟩) | (go_at_call 36; refine (HK.out _).mono ?_; rintro e w9 ⟨vk, rfl, h9⟩; obtain ⟨ka, kc, rfl, _⟩ := id h9.sl0; replace hk := hk.call0 h9.bare) | (go_at_call 21; (with_reducible show Calls _ _ #[Value.slice (some ⟨wr.heap.size, 0, none⟩) 1 1, Value.string s] _ _); refine (HO0.out _ _ hk.sl1).mono ?_; rintro e w9 ⟨rfl, h9⟩; replace hk := hk.call0 h9) | (go_at_call 21; (with_reducible show Calls _ _ #[_, Value.string s] _ _); refine (HD0.out _ _ hk.sl0).mono ?_; rintro e w9 ⟨rfl, h9⟩; replace hk := hk.call0 h9) | (go_at_call 21; (with_reducible show Calls _ _ #[_, Value.string t] _ _); refine (HT0.out _ _ hk.sl1).mono ?_; rintro e w9 ⟨rfl, h9⟩; replace hk := hk.call0 h9) | (go_at_call 25; refine (HU.out _).mono ?_; rintro e w9 ⟨rfl, h9⟩; replace hk := hk.call0 h9))
                go_roundw
                case rel => exact ⟨i + 1, by omega, by go_num, hk.tail.tail⟩
                case measure => simp [intOf]; omega
            · have q9 : decide ((i : Int) < (L.length : Int) - 1) = false := decide_eq_false (by omega)
              clear hi1 HD0
              cases u with
              | true =>
                rw [hn3 rfl] at HT0
                clear hn2 hn3
                generalize ((pcs 42 0 L[i]).length) = z at *
                generalize str L[i] = x at *
                replace hk := hm2
                clear hm hm2
                have c1 := ((St.refl wr).alloc (.cells #[.string x] 9)).keep c0
                have c2 := (((St.refl wr).alloc (.cells #[.string x] 9)).alloc (.cells #[.string (x ++ ⟨#[47]⟩)] 9)).keep c0
                go_wp2_with (first | ((with_reducible show wpList _ _ _ _ _ _); refine wpl_want rfl ?_) | (go_at_call 23; refine (HPT.out _).mono ?_; rintro e w9 ⟨rfl, rfl⟩) | (go_at_call 36; refine (HK.out _).mono ?_; rintro e w9 ⟨vk, rfl, h9⟩; obtain ⟨ka, kc, rfl, _⟩ := id h9.sl0; replace hk := hk.call0 h9.bare) | (go_at_call 21; (with_reducible show Calls _ _ #[Value.slice (some ⟨wr.heap.size, 0, none⟩) 1 1, Value.string s] _ _); refine (HO0.out _ _ hk.sl1).mono ?_; rintro e w9 ⟨rfl, h9⟩; replace hk := hk.call0 h9) | (go_at_call 21; (with_reducible show Calls _ _ #[_, Value.string s] _ _); refine (HD0.out _ _ hk.sl0).mono ?_; rintro e w9 ⟨rfl, h9⟩; replace hk := hk.call0 h9) | (go_at_call 21; (with_reducible show Calls _ _ #[_, Value.string t] _ _); refine (HT0.out _ _ hk.sl1).mono ?_; rintro e w9 ⟨rfl, h9⟩; replace hk := hk.call0 h9) | (go_at_call 25; refine (HU.out _).mono ?_; rintro e w9 ⟨rfl, h9⟩; replace hk := hk.call0 h9))
                go_roundw
                case rel => exact ⟨i + 1, by omega, by go_num, hk.tail.tail⟩
                case measure => simp [intOf]; omega
              | false =>
                clear hn2 hn3 HT0
                generalize ((pcs 42 0 L[i]).length) = z at *
                generalize str L[i] = x at *
                replace hk := hm2
                clear hm hm2
                have c1 := ((St.refl wr).alloc (.cells #[.string x] 9)).keep c0
                have c2 := (((St.refl wr).alloc (.cells #[.string x] 9)).alloc (.cells #[.string (x ++ ⟨#[47]⟩)] 9)).keep c0
                go_wp2_with (first | ((with_reducible show wpList _ _ _ _ _ _); refine wpl_want rfl ?_) | (go_at_call 23; refine (HPT.out _).mono ?_; rintro e w9 ⟨rfl, rfl⟩) | (go_at_call 36; refine (HK.out _).mono ?_; rintro e w9 ⟨vk, rfl, h9⟩; obtain ⟨ka, kc, rfl, _⟩ := id h9.sl0; replace hk := hk.call0 h9.bare) | (go_at_call 21; (with_reducible show Calls _ _ #[Value.slice (some ⟨wr.heap.size, 0, none⟩) 1 1, Value.string s] _ _); refine (HO0.out _ _ hk.sl1).mono ?_; rintro e w9 ⟨rfl, h9⟩; replace hk := hk.call0 h9) | (go_at_call 21; (with_reducible show Calls _ _ #[_, Value.string s] _ _); refine (HD0.out _ _ hk.sl0).mono ?_; rintro e w9 ⟨rfl, h9⟩; replace hk := hk.call0 h9) | (go_at_call 21; (with_reducible show Calls _ _ #[_, Value.string t] _ _); refine (HT0.out _ _ hk.sl1).mono ?_; rintro e w9 ⟨rfl, h9⟩; replace hk := hk.call0 h9) | (go_at_call 25; refine (HU.out _).mono ?_; rintro e w9 ⟨rfl, h9⟩; replace hk := hk.call0 h9))
                go_roundw
                case rel => exact ⟨i + 1, by omega, by go_num, hk.tail.tail⟩
                case measure => simp [intOf]; omega
          · have q9 : (((pcs 42 0 L[i]).length : Int) == 1) = false := by rw [beq_eq_false_iff_ne]; omega
            rw [hp] at HPT
            clear hp HN HO0 HD0 HT0 hst
            generalize ((pcs 42 0 L[i]).length) = z at *
            generalize str L[i] = x at *
            replace hk := hm2
            clear hm hm2
            have c1 := ((St.refl wr).alloc (.cells #[.string x] 9)).keep c0
            have c2 := (((St.refl wr).alloc (.cells #[.string x] 9)).alloc (.cells #[.string (x ++ ⟨#[47]⟩)] 9)).keep c0
            go_wp2_with (first | ((with_reducible show wpList _ _ _ _ _ _); refine wpl_want rfl ?_) | (go_at_call 23; refine (HPT.out _).mono ?_; rintro e w9 ⟨rfl, rfl⟩) | (go_at_call 36; refine (HK.out _).mono ?_; rintro e w9 ⟨vk, rfl, h9⟩; obtain ⟨ka, kc, rfl, _⟩ := id h9.sl0; replace hk := hk.call0 h9.bare) | (go_at_call 21; (with_reducible show Calls _ _ #[Value.slice (some ⟨wr.heap.size, 0, none⟩) 1 1, Value.string s] _ _); refine (HO0.out _ _ hk.sl1).mono ?_; rintro e w9 ⟨rfl, h9⟩; replace hk := hk.call0 h9) | (go_at_call 21; (with_reducible show Calls _ _ #[_, Value.string s] _ _); refine (HD0.out _ _ hk.sl0).mono ?_; rintro e w9 ⟨rfl, h9⟩; replace hk := hk.call0 h9) | (go_at_call 21; (with_reducible show Calls _ _ #[_, Value.string t] _ _); refine (HT0.out _ _ hk.sl1).mono ?_; rintro e w9 ⟨rfl, h9⟩; replace hk := hk.call0 h9) | (go_at_call 25; refine (HU.out _).mono ?_; rintro e w9 ⟨rfl, h9⟩; replace hk := hk.call0 h9))
            go_roundw
            case rel => exact ⟨i + 1, by omega, by go_num, hk.tail.tail⟩
            case measure => simp [intOf]; omega
      · have hge : (L.length : Int) ≤ (i : Int) := by omega
        clear hlt
        go_wp2_with (first | ((with_reducible show wpList _ _ _ _ _ _); refine wpl_want rfl ?_) | (go_at_call 19; refine (first_any _).mono ?_; rintro e w9 ⟨rfl, h9⟩; replace hk := hk.call0 h9))
        go_ret
        exact ⟨rfl, hk.below⟩
end Go.Proofs.YtobpojlophhfaaaDoor
