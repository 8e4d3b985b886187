/- The walk of PackSmall. marref.Lists over equal lists. The walk of PackWrites. -/
import Derived.Test.YtlfdnlomlbbicaaGreatDoorJ22PkX
import Derived.Test.YtlfdnlomlbbicaaGreatDoorJ27ShaH
import Derived.Test.YtlfdnlomlbbicaaGreatDoorJ4Lib3
import Derived.Test.YtlfdnlomlbbicaaGreatDoorPrW
namespace Go.Mx
open Go Go.RowKit
theorem mayE_nil : mayE [] = 0 := mayE_0 (by simp)
theorem mayE_rep {l : List (List UInt8)} {x : List UInt8} (h : mayE l = 0) (hx : x ∈ l) (n : Nat) : mayE (List.replicate n x) = 0 := by
  refine mayE_0 fun y hy => ?_
  rw [List.eq_of_mem_replicate hy]
  by_cases hd : (decO x).2 = 0
  · exact hd
  · rw [mayE_4 hx hd] at h; cases h
theorem packL_nil : packL [] = [77, 80, 49, 0] ++ sha [77, 80, 49, 0] := by
  have h : pkB [] = [77, 80, 49, 0] := by
    have h1 : putL 0 = [0] := by rw [putL, dif_pos (by omega)]; rfl
    have h2 : (pkAll []).1 = [] := rfl
    unfold pkB
    rw [h2, List.length_nil, h1]
    rfl
  unfold packL
  rw [h]
theorem LL.rep {w : World} {v u : Value} {x : List UInt8} {n : Nat} (hv : Sl w 1 v n (List.replicate n u)) (hu : Sl w 1 u x.length (bs x)) : LL w v (List.replicate n x) := by
  have h : ∀ n, rds (List.replicate n u) (List.replicate n x) = List.replicate n ⟨u, 1, x.length, bs x⟩ := by
    intro n
    induction n with
    | zero => rfl
    | succ n ih => rw [List.replicate_succ, List.replicate_succ, List.replicate_succ, ← ih]; rfl
  refine ⟨List.replicate n u, by simp, by rw [List.length_replicate]; exact hv, fun q hq => ?_⟩
  rw [h] at hq
  rw [List.eq_of_mem_replicate hq]
  exact hu
end Go.Mx
namespace Go.Proofs.YtlfdnlomlbbicaaGreatDoor
open Go.RowKit Go.Mx
set_option maxRecDepth 100000 in
theorem first10_any (w : World) (hL : Laid w) (hI : IndexOk w) : Calls Tryz.prog 5 #[] w fun e w' => e = .returned (.bool true) ∧ St w w' [] [] := by
  go_enter Tryz.func5, Tryz.ntmps5
  go_wp2_with fail
  refine (pwrite_any _ [] w (LL.nil w) (by simp) (by simp) hL hI).mono ?_
  unfold PkwPost
  rintro e w1 (⟨_, v, rfl, hs⟩ | ⟨h, _⟩)
  · rw [packL_nil] at hs
    have hsl := sha_len [77, 80, 49, 0]
    have hlen : ([77, 80, 49, 0] ++ sha [77, 80, 49, 0]).length = 36 := by rw [List.length_append, hsl]; rfl
    have htk : ([77, 80, 49, 0] ++ sha [77, 80, 49, 0]).take 4 = [77, 80, 49, 0] := List.take_left' rfl
    generalize [77, 80, 49, 0] ++ sha [77, 80, 49, 0] = B at *
    have hs0 := hs.sl0
    obtain ⟨x, p1, q1⟩ := hs0.cutRun Tryz.elU8 none (some (.int .i64 4)) 0 4 (.inl ⟨rfl, rfl⟩) (.inr ⟨.i64, rfl⟩) (by omega) (by omega)
    have hx := Sl.cutB (q1 _ hs0) (by omega) (Nat.zero_le _)
    rw [htk, List.drop_zero] at hx
    obtain ⟨bo, bc, rfl, _⟩ := id hs0
    have ht : ((str [77, 80, 49, 0]).toList == [77, 80, 49, 0]) = true := by rw [str_toL]; rfl
    have hbare := Mx.hid hs.bare
    clear q1 hs0 hs htk
    rw [hlen] at p1 ⊢
    go_wp2_with (first | ((with_reducible show wpList _ _ _ _ _ _); refine wpl_want rfl ?_) | ((with_reducible show wpList _ _ _ _ _ _); refine wpl_b2s rfl 25 9 5 _ rfl Tryz.underlying25 Tryz.underlying5 Tryz.underlying9 (by exact hx) ?_))
    go_ret
    exact ⟨rfl, hbare.out⟩
  · rw [mayE_nil] at h
    cases h
end Go.Proofs.YtlfdnlomlbbicaaGreatDoor

namespace Go.Proofs.YtlfdnlomlbbicaaGreatDoor
open Go.RowKit Go.Mx
theorem lists_same (v v' : Value) (ls : List (List UInt8)) (w : World) (hv : LL w v ls) (hv' : LL w v' ls) :
    Calls Tryz.prog 11 #[v, v'] w fun e w' => e = .returned (.bool true) ∧ St w w' [] [] := by
  obtain ⟨ao, cap, blk, off, us, rfl, h1, h2, hc, hd⟩ := hv.at
  obtain ⟨ao', cap', blk', off', us', rfl, h1', h2', hc', hd'⟩ := hv'.at
  clear hv hv'
  have HC := Mx.hid hc
  have HC' := Mx.hid hc'
  have HD := Mx.hid hd
  have HD' := Mx.hid hd'
  clear hc hc' hd hd'
  have hb : ((ls.length : Int) != (ls.length : Int)) = false := by simp
  go_enter Tryz.func11, Tryz.ntmps11
  go_wp2_with fail
  go_loopw [5] (fun x wr => ∃ i : Nat, i ≤ ls.length ∧ x = .int .i64 i ∧ St w wr [] []) (fun x _ => ls.length - (intOf x).toNat)
  case atStart => exact ⟨0, by omega, rfl, St.refl w⟩
  case round =>
    obtain ⟨i, hi, rfl, hs⟩ := hrel
    by_cases hlt : i < ls.length
    · obtain ⟨rfl, c1⟩ := HC.out i hlt
      obtain ⟨rfl, c2⟩ := HC'.out i hlt
      have c1 := hs.keep c1
      have c2 := hs.keep c2
      have d1 := hs.old (HD.out i hlt)
      have d2 := hs.old (HD'.out i hlt)
      have hii : (i : Int) < (ls.length : Int) := by omega
      obtain ⟨z1, y1, e1, _⟩ := d1
      have d1 := hs.old (HD.out i hlt)
      obtain ⟨z2, y2, e2, _⟩ := d2
      have d2 := hs.old (HD'.out i hlt)
      rw [e1] at c1 d1
      rw [e2] at c2 d2
      clear e1 e2
      have hX : ∀ w', St wr w' [] [] → Calls Tryz.prog 10 #[.slice z1 ls[i].length y1, .slice z2 ls[i].length y2] w' fun e w'' => e = .returned (.bool true) ∧ w'' = w' := fun w' h =>
        (bytes_any _ _ ls[i] ls[i] w' (h.old d1) (h.old d2)).mono fun e w'' g => by rw [decide_eq_true (rfl : ls[i] = ls[i])] at g; exact ⟨g.1, g.2.symm⟩
      have HX := Mx.hid hX
      clear hX
      go_wp2_with fail
      go_quiet ((go_at_call 10; exact Calls.quiet_of_same (HX.out _ ((St.refl wr).drewN _))))
      go_wp2_with fail
      go_roundw
      case rel => exact ⟨i + 1, by omega, by go_num, hs.drewN _⟩
      case measure => simp [intOf]; omega
    · go_wp2_with fail
      go_ret
      exact ⟨rfl, hs⟩

end Go.Proofs.YtlfdnlomlbbicaaGreatDoor

namespace Go.Proofs.YtlfdnlomlbbicaaGreatDoor
open Go.RowKit Go.Mx
set_option maxRecDepth 200000 in
set_option maxHeartbeats 4000000 in
theorem packWritesRow (v : Value) (l : List (List UInt8)) {w : World} (hv : LL w v l) (hz : ∀ x ∈ l, x.length ≤ reachBytes) (_w : World) (hLd : Laid w) (hId : IndexOk w) :
    Calls Tryz.prog 3 #[v] w fun e w' => e = .returned (.bool true) ∧ Below w.heap.size w w' := by
  have HL := Mx.hid (fun w' (h : St w w' [] []) => hLd.keep h)
  have HI := Mx.hid (fun w' (h : St w w' [] []) => hId.keep h)
  have HV := Mx.hid hv
  have HZ := Mx.hid hz
  obtain ⟨ao, cap, blk, off, us, rfl, h1, h2, hc, hs⟩ := hv.at
  have HC := Mx.hid (fun k hk => (⟨(hc k hk).1, (hc k hk).2⟩ : ao = some ⟨blk, off, none⟩ ∧ w.cell? ⟨blk, off + k, none⟩ = some (us k)))
  have HS := Mx.hid hs
  clear hv hz hc hs hLd hId
  go_enter Tryz.func3, Tryz.ntmps3
  go_wp2_with fail
  refine (first10_any _ (HL.out _ (St.refl w)) (HI.out _ (St.refl w))).mono ?_
  rintro e w1 ⟨rfl, hk⟩
  go_wp2_with (first | ((with_reducible show wpList _ _ _ _ _ _); refine wpl_want rfl ?_))
  refine (few10_any _ l _ (LL.old hk HV.out) (fun x hx => by have := HZ.out x hx; unfold reachBytes at this; omega)).mono ?_
  rintro e w2 ⟨b1, rfl, hk2, hb1⟩
  replace hk := hk.call0 hk2
  clear hk2
  cases b1 with
  | false =>
    go_wp2_with (first | ((with_reducible show wpList _ _ _ _ _ _); refine wpl_want rfl ?_) | (go_at_call 5; refine (first10_any _ (HL.out _ hk.bare) (HI.out _ hk.bare)).mono ?_; rintro e wf ⟨rfl, hkf⟩; replace hk := hk.call0 hkf))
    go_ret
    exact ⟨rfl, hk.below⟩
  | true =>
  obtain ⟨hl40, hl15, _⟩ := hb1 rfl
  clear hb1
  have H15 := Mx.hid hl15
  have hk0 := Mx.hid (hk.addNil 25 1)
  clear hl15 hk
  go_wp2_with (first | ((with_reducible show wpList _ _ _ _ _ _); refine wpl_want rfl ?_))
  go_loopw [3, 4] (fun x y wr => ∃ (i : Nat) (vs : List Value), y = .int .i64 i ∧ i ≤ l.length ∧ Hid (vs.length = (l.take i).length) ∧ St w wr [⟨x, 25, 1, (l.take i).length, vs⟩] (rds vs (l.take i))) (fun _ y _ => l.length - (intOf y).toNat)
  case atStart => exact ⟨0, [], rfl, by omega, rfl, by rw [List.take_zero]; exact hk0.out⟩
  case round =>
    clear hk0
    obtain ⟨i, vs, rfl, hi, HVS, hs⟩ := hrel
    by_cases hlt : i < l.length
    · obtain ⟨rfl, a0⟩ := HC.out i hlt
      have hx := HS.out i hlt
      have hxz := H15.out _ (List.getElem_mem hlt)
      obtain ⟨xo, xc, hu, _⟩ := hx.form
      rw [hu] at a0 hx
      replace a0 := hs.keep a0
      have hx' := hs.old hx
      have HTK := Mx.hid (List.take_succ_eq_append_getElem hlt)
      have hii : (i : Int) < (l.length : Int) := by omega
      have htl : (l.take i).length ≤ 40 := by rw [List.length_take]; omega
      have HTL := Mx.hid (show (l.take i).length = i by rw [List.length_take]; omega)
      clear hx hu
      generalize l[i] = x at *
      go_wp2_with fail
      refine (copyBytes_any _ x _ hx' (by omega)).mono ?_
      rintro e w3 ⟨vc, rfl, hkc⟩
      have hs2 := (hs.call1 hkc).freeze
      dsimp only at hs2
      obtain ⟨co, cc, rfl, _⟩ := id hkc.sl0
      clear hkc
      go_wp2_with (at_builtin; refine wpl_app rfl _ _ 22 rfl Tryz.elBs (hs2.alloc _) rfl (by exact Sl.one _ _ _) (by intro u hu; simp at hu; subst hu; rfl) (by omega) ?_; intro v6 w6 hs6 _)
      obtain ⟨hs7, hl7⟩ := St.pushL hs6 HVS.out
      rw [← HTK.out] at hs7 hl7
      go_roundw
      case rel => exact ⟨i + 1, _, by go_num, by omega, Mx.hid hl7, hs7⟩
      case measure => simp [intOf]; omega
    · obtain rfl : i = l.length := by omega
      rw [List.take_length] at hs HVS
      have hLL : LL wr _ l := ⟨vs, HVS.out, hs.sl0, fun q hq => hs.rd q hq⟩
      have HLL := Mx.hid hLL
      have HW := Mx.hid (pwrite_any _ l wr hLL (by omega) (fun x hx => by have := H15.out x hx; omega) (HL.out _ hs.bare) (HI.out _ hs.bare))
      clear hLL
      go_wp2_with fail
      refine HW.out.mono ?_
      intro e w4 hp
      have hq4 : ∃ vb er B, e = .returned (.tuple #[vb, .int .i64 er]) ∧ er = mayE l ∧ (B = if mayE l = 0 then packL l else []) ∧ St wr w4 [pbr vb B] [] := by
        rcases hp with ⟨h, v, rfl, hh⟩ | ⟨h, rfl, hh⟩
        · exact ⟨v, 0, packL l, rfl, h.symm, by rw [if_pos h], hh⟩
        · exact ⟨_, 4, [], rfl, h.symm, by rw [h, if_neg (by simp)], hh.addNil _ _⟩
      obtain ⟨vb, er, B, rfl, her, hB, hkb⟩ := hq4
      have HER := Mx.hid her
      have HBB := Mx.hid hB
      clear her hB
      have hs4 := hs.bare.call1 hkb
      have HLL4 := Mx.hid (LL.old hkb.bare HLL.out)
      have HW2 := Mx.hid (rwrite_any _ l w4 (LL.old hs4 HV.out) (by omega) (fun x hx => by have := H15.out x hx; omega))
      clear hp HW hkb
      go_wp2_with fail
      refine HW2.out.mono ?_
      intro e w5 hp
      have hq5 : ∃ vc, e = .returned (.tuple #[vc, .int .i64 er]) ∧ St w4 w5 [pbr vc B] [] := by
        rcases hp with ⟨h, v, rfl, hh⟩ | ⟨h, rfl, hh⟩
        · rw [HER.out, HBB.out, h, if_pos rfl]; exact ⟨v, rfl, hh⟩
        · rw [HER.out, HBB.out, h, if_neg (by simp)]; exact ⟨_, rfl, hh.addNil _ _⟩
      obtain ⟨vc, rfl, hkc⟩ := hq5
      have hs5 := hs4.call1 hkc
      have HLL5 := Mx.hid (LL.old hkc.bare HLL4.out)
      have hb : (er == er) = true := by simp
      clear hp HW2 hkc hs4 hs
      go_wp2_with (first | ((with_reducible show wpList _ _ _ _ _ _); refine wpl_want rfl ?_) | (go_at_call 5; refine (first10_any _ (HL.out _ hs5.bare) (HI.out _ hs5.bare)).mono ?_; rintro e wf ⟨rfl, hkf⟩; replace hs5 := hs5.call0 hkf) | (go_at_call 10; refine (bytes_any _ _ B B _ hs5.sl1 hs5.sl0).mono ?_; rintro e w9 ⟨rfl, rfl⟩; rw [decide_eq_true rfl]) | (go_at_call 11; refine (lists_same _ _ l _ (LL.old hkf HLL5.out) (LL.old hs5 HV.out)).mono ?_; rintro e w9 ⟨rfl, hk9⟩; replace hs5 := hs5.call0 hk9))
      go_ret
      exact ⟨rfl, hs5.below⟩
end Go.Proofs.YtlfdnlomlbbicaaGreatDoor
