/- Walks of the document's Text, Split, Join and of marref.Split. -/
import Derived.Test.YtafmgclhgmhflaaDoorSplit
namespace Go.Proofs.YtafmgclhgmhflaaDoor
open Go.RowKit Go.Mx

theorem refText_any (v : Value) (l : List UInt8) (w : World) (hv : Sl w 1 v l.length (bs l)) :
    Calls Tryd.prog 30 #[v] w fun e w' => e = .returned (.bool (isText l)) ∧ w = w' := by
  obtain ⟨ao, cap, blk, off, rfl, h1, h2, _, hc⟩ := hv.byt
  have HC := Mx.hid hc
  clear hc hv
  go_enter Tryd.func30, Tryd.ntmps30
  go_wp2_with fail
  go_loop [3] (fun x => ∃ i : Nat, i ≤ l.length ∧ x = .int .i64 i ∧ Hid ((0 : UInt8) ∉ l.take i)) (fun x => l.length - (intOf x).toNat)
  case atStart => exact ⟨0, by omega, rfl, by simp [Hid]⟩
  case round =>
    obtain ⟨i, hi, rfl, Ht⟩ := hrel
    by_cases hlt : i < l.length
    · obtain ⟨rfl, c1⟩ := HC.out i hlt
      have hii : (i : Int) < (l.length : Int) := by omega
      have Hsn := Mx.hid (List.take_succ_eq_append_getElem hlt)
      have Hm := Mx.hid (List.getElem_mem hlt)
      generalize l[i] = x at *
      by_cases hx : x = 0
      · have Hx := Mx.hid hx
        have hb : ((x.toNat : Int) == 0) = true := by simp [hx]
        clear hx
        go_wp2_with fail
        go_ret
        exact ⟨by rw [isText_f (Hx.out ▸ Hm.out)]; rfl, rfl⟩
      · have Hx := Mx.hid hx
        have hb : ((x.toNat : Int) == 0) = false := by
          simp only [beq_eq_false_iff_ne, ne_eq]
          intro h; exact hx (UInt8.toNat_inj.1 (by simpa using h))
        clear hx
        go_wp2_with fail
        go_round
        case rel => exact ⟨i + 1, by omega, by go_num, by rw [Hsn.out]; intro h; rcases List.mem_append.1 h with h | h; exact Ht.out h; exact Hx.out (List.mem_singleton.1 h).symm⟩
        case measure => simp [intOf]; omega
    · go_wp2_with fail
      go_ret
      exact ⟨by have h := Ht.out; rw [List.take_of_length_le (by omega)] at h; rw [isText_t h]; rfl, rfl⟩
theorem refSplit_any (v : Value) (l : List UInt8) (w : World) (hv : Sl w 1 v l.length (bs l)) (hl : l.length ≤ 8796093022208) :
    Calls Tryd.prog 31 #[v] w fun e w' => ∃ v', e = .returned v' ∧ St w w' [⟨v', 9, 1, (lns l).length, ss (tx (lns l))⟩] [] := by
  obtain ⟨ao, cap, blk, off, rfl, h1, h2, _, hc⟩ := hv.byt
  have HC := Mx.hid hc
  have HV := Mx.hid hv
  clear hc hv
  go_enter Tryd.func31, Tryd.ntmps31
  go_wp2_with fail
  go_loopw [3, 4, 5] (fun o x y wr => ∃ (f i : Nat) (acc : List (List UInt8)), f ≤ i ∧ i ≤ l.length ∧ x = .int .i64 f ∧ y = .int .i64 i ∧ acc.length ≤ i ∧ Hid (lns l = acc ++ lns (l.drop f)) ∧ Hid ((10 : UInt8) ∉ (l.take i).drop f) ∧ Hid (i = l.length → f = l.length) ∧ St w wr [⟨o, 9, 1, acc.length, ss (tx acc)⟩] []) (fun _ _ y _ => l.length - (intOf y).toNat)
  case atStart => exact ⟨0, 0, [], by omega, by omega, rfl, rfl, by simp, by simp [Hid], by simp [Hid], fun h => h, St.nil _ _ _⟩
  case round =>
    obtain ⟨f, i, acc, hf, hi, rfl, rfl, hac, Hl, Hn, Hend, hs⟩ := hrel
    by_cases hlt : i < l.length
    · obtain ⟨rfl, c1⟩ := HC.out i hlt
      replace c1 := hs.keep c1
      have hii : (i : Int) < (l.length : Int) := by omega
      have hbv := hs.old HV.out
      have HX := Mx.hid (seg_snoc hf hlt)
      have HD := Mx.hid (seg_drop hf hlt)
      by_cases hcut : l[i] = 10 ∨ i + 1 = l.length
      · have HP : Hid (lns l = (acc ++ [(l.take (i + 1)).drop f]) ++ lns (l.drop (i + 1))) := by
          show _ = _
          rw [Hl.out, HD.out, HX.out, List.append_assoc]
          by_cases h10 : l[i] = 10
          · rw [h10, lns_cut Hn.out]; rfl
          · have e : l.drop (i + 1) = [] := List.drop_eq_nil_of_le (by rcases hcut with h | h; exact absurd h h10; omega)
            rw [e, lns_none (by intro h; rcases List.mem_append.1 h with h | h; exact Hn.out h; exact h10 (List.mem_singleton.1 h).symm) (by simp)]
            rfl
        have hw : ((l[i].toNat : Int) == 10) = true ∨ (((l[i].toNat : Int) == 10) = false ∧ ((i : Int) == (l.length : Int) - 1) = true) := by
          by_cases h : l[i] = 10
          · left; simp [h]
          · right
            constructor
            · simp only [beq_eq_false_iff_ne, ne_eq]
              intro h'; exact h (UInt8.toNat_inj.1 (Int.ofNat.inj h'))
            · have : i + 1 = l.length := by rcases hcut with h' | h'; exact absurd h' h; exact h'
              simp; omega
        have HEL : Hid (((l.take (i + 1)).drop f).length ≤ l.length) := by show _ ≤ _; rw [List.length_drop, List.length_take]; omega
        clear hcut
        generalize l[i] = x at *
        rcases hw with g1 | ⟨g1, g2⟩
        all_goals
          go_wp2_with (first | ((with_reducible show wpList _ _ _ _ _ _); refine wpl_cut rfl 36 _ _ _ rfl Tryd.elU8 (by exact hbv) f (i + 1) (.inr ⟨.i64, rfl⟩) (.inr ⟨.i64, rfl⟩) (by omega) (by omega) ?_; intro vc hvc; replace hvc := Sl.cutB (hvc _ (by exact hbv)) (by omega) (by omega)) | ((with_reducible show wpList _ _ _ _ _ _); refine wpl_b2s rfl 36 9 5 _ rfl Tryd.underlying36 Tryd.underlying5 Tryd.underlying9 (by exact hvc) ?_) | (at_builtin; refine wpl_app rfl _ _ 22 rfl Tryd.elStr (hs.alloc _) rfl (by exact Sl.one _ _ _) (by intro u hu; simp at hu; subst hu; rfl) (by omega) ?_; intro v1 w1 hs1 _))
          go_roundw
          case rel => exact ⟨i + 1, i + 1, acc ++ [(l.take (i + 1)).drop f], by omega, by omega, by go_num, by go_num, by simp; omega, HP, by rw [seg_self]; exact List.not_mem_nil, fun h => h, hs1.cast (by simp) (by rw [tx_app, ss_app]; rfl)⟩
          case measure => simp [intOf]; omega
      · have h10 : l[i] ≠ 10 := fun h => hcut (.inl h)
        have hne : i + 1 ≠ l.length := fun h => hcut (.inr h)
        have g1 : ((l[i].toNat : Int) == 10) = false := by
          simp only [beq_eq_false_iff_ne, ne_eq]
          intro h'; exact h10 (UInt8.toNat_inj.1 (Int.ofNat.inj h'))
        have g2 : ((i : Int) == (l.length : Int) - 1) = false := by
          simp only [beq_eq_false_iff_ne, ne_eq]; omega
        have HN2 : Hid ((10 : UInt8) ∉ (l.take (i + 1)).drop f) := by
          show _ ∉ _
          rw [HX.out]; intro h; rcases List.mem_append.1 h with h | h; exact Hn.out h; exact h10 (List.mem_singleton.1 h).symm
        clear hcut h10
        generalize l[i] = x at *
        go_wp2_with fail
        go_roundw
        case rel => exact ⟨f, i + 1, acc, by omega, by omega, rfl, by go_num, by omega, Hl, HN2, fun h => absurd h hne, hs⟩
        case measure => simp [intOf]; omega
    · go_wp2_with fail
      go_ret
      have e : acc = lns l := by
        have := Hl.out
        rw [List.drop_eq_nil_of_le (by have := Hend.out (by omega); omega)] at this
        rw [this]; simp [lns]
      subst e
      exact ⟨_, rfl, hs⟩
theorem refJoin_any (v : Value) (l : List ByteArray) (w : World) (hv : Sl w 1 v l.length (ss l)) (hj : (joinL l).length ≤ 140737488355328) :
    Calls Tryd.prog 32 #[v] w fun e w' => ∃ v', e = .returned v' ∧ St w w' [⟨v', 5, 1, (joinL l).length, bs (joinL l)⟩] [] := by
  obtain ⟨ao, cap, blk, off, rfl, h1, h2, _, hc⟩ := hv.txt
  have HC := Mx.hid hc
  clear hc hv
  go_enter Tryd.func32, Tryd.ntmps32
  go_wp2_with fail
  go_loopw [3, 4] (fun o x wr => ∃ i : Nat, i ≤ l.length ∧ x = .int .i64 i ∧ St w wr [⟨o, 5, 1, (joinL (l.take i)).length, bs (joinL (l.take i))⟩] []) (fun _ x _ => l.length - (intOf x).toNat)
  case atStart => exact ⟨0, by omega, rfl, St.nil _ _ _⟩
  case round =>
    obtain ⟨i, hi, rfl, hs⟩ := hrel
    by_cases hlt : i < l.length
    · obtain ⟨rfl, c1⟩ := HC.out i hlt
      replace c1 := hs.keep c1
      have hii : (i : Int) < (l.length : Int) := by omega
      have hsn : joinL (l.take (i + 1)) = joinL (l.take i) ++ l[i].data.toList := by
        rw [List.take_succ_eq_append_getElem hlt, joinL_app]; simp [joinL]
      have hb1 : (joinL (l.take i)).length + l[i].size ≤ 140737488355328 := by
        have h1 : joinL l = joinL (l.take (i + 1)) ++ joinL (l.drop (i + 1)) := by rw [← joinL_app, List.take_append_drop]
        have h2 := congrArg List.length h1
        rw [hsn] at h2
        simp only [List.length_append, Array.length_toList] at h2
        have : l[i].size = l[i].data.size := rfl
        omega
      have HS := Mx.hid hsn
      clear hsn
      go_wp2_with (at_builtin; refine wpl_app_str rfl _ _ 36 9 rfl Tryd.elU8 Tryd.underlying9 hs rfl rfl (by omega) ?_; intro v1 w1 hs1 _)
      go_roundw
      case rel => exact ⟨i + 1, by omega, by go_num, hs1.cast (by rw [HS.out, List.length_append]; rfl) (by rw [HS.out, bs_app])⟩
      case measure => simp [intOf]; omega
    · go_wp2_with fail
      go_ret
      exact ⟨_, rfl, hs.cast (by rw [List.take_of_length_le (by omega)]) (by rw [List.take_of_length_le (by omega)])⟩
end Go.Proofs.YtafmgclhgmhflaaDoor
