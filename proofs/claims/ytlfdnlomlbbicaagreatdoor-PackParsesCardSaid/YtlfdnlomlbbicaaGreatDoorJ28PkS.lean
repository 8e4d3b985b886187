/- The walk of PackSmall. marref.Lists over equal lists. -/
import Derived.Test.YtlfdnlomlbbicaaGreatDoorJ22PkX
import Derived.Test.YtlfdnlomlbbicaaGreatDoorJ27ShaH
import Derived.Test.YtlfdnlomlbbicaaGreatDoorJ4Lib3
namespace Go.Mx
open Go Go.RowKit
theorem mayE_nil : mayE [] = 0 := mayE_0 (by simp)
theorem mayE_rep {l : List (List UInt8)} {x : List UInt8} (h : mayE l = 0) (hx : x ∈ l) (n : Nat) : mayE (List.replicate n x) = 0 := by
  refine mayE_0 fun y hy => ?_
  rw [List.eq_of_mem_replicate hy]
  by_cases hd : (decO x).2 = 0
  · exact hd
  · rw [mayE_4 hx hd] at h; cases h
theorem packL_nil : packL [] = [77, 80, 49, 0] ++ sha [77, 80, 49, 0] := by
  have h : pkB [] = [77, 80, 49, 0] := by
    have h1 : putL 0 = [0] := by rw [putL, dif_pos (by omega)]; rfl
    have h2 : (pkAll []).1 = [] := rfl
    unfold pkB
    rw [h2, List.length_nil, h1]
    rfl
  unfold packL
  rw [h]
theorem LL.rep {w : World} {v u : Value} {x : List UInt8} {n : Nat} (hv : Sl w 1 v n (List.replicate n u)) (hu : Sl w 1 u x.length (bs x)) : LL w v (List.replicate n x) := by
  have h : ∀ n, rds (List.replicate n u) (List.replicate n x) = List.replicate n ⟨u, 1, x.length, bs x⟩ := by
    intro n
    induction n with
    | zero => rfl
    | succ n ih => rw [List.replicate_succ, List.replicate_succ, List.replicate_succ, ← ih]; rfl
  refine ⟨List.replicate n u, by simp, by rw [List.length_replicate]; exact hv, fun q hq => ?_⟩
  rw [h] at hq
  rw [List.eq_of_mem_replicate hq]
  exact hu
end Go.Mx
namespace Go.Proofs.YtlfdnlomlbbicaaGreatDoor
open Go.RowKit Go.Mx
set_option maxRecDepth 100000 in
theorem first10_any (w : World) (hL : Laid w) (hI : IndexOk w) : Calls Tryz.prog 5 #[] w fun e w' => e = .returned (.bool true) ∧ St w w' [] [] := by
  go_enter Tryz.func5, Tryz.ntmps5
  go_wp2_with fail
  refine (pwrite_any _ [] w (LL.nil w) (by simp) (by simp) hL hI).mono ?_
  unfold PkwPost
  rintro e w1 (⟨_, v, rfl, hs⟩ | ⟨h, _⟩)
  · rw [packL_nil] at hs
    have hsl := sha_len [77, 80, 49, 0]
    have hlen : ([77, 80, 49, 0] ++ sha [77, 80, 49, 0]).length = 36 := by rw [List.length_append, hsl]; rfl
    have htk : ([77, 80, 49, 0] ++ sha [77, 80, 49, 0]).take 4 = [77, 80, 49, 0] := List.take_left' rfl
    generalize [77, 80, 49, 0] ++ sha [77, 80, 49, 0] = B at *
    have hs0 := hs.sl0
    obtain ⟨x, p1, q1⟩ := hs0.cutRun Tryz.elU8 none (some (.int .i64 4)) 0 4 (.inl ⟨rfl, rfl⟩) (.inr ⟨.i64, rfl⟩) (by omega) (by omega)
    have hx := Sl.cutB (q1 _ hs0) (by omega) (Nat.zero_le _)
    rw [htk, List.drop_zero] at hx
    obtain ⟨bo, bc, rfl, _⟩ := id hs0
    have ht : ((str [77, 80, 49, 0]).toList == [77, 80, 49, 0]) = true := by rw [str_toL]; rfl
    have hbare := Mx.hid hs.bare
    clear q1 hs0 hs htk
    rw [hlen] at p1 ⊢
    go_wp2_with (first | ((with_reducible show wpList _ _ _ _ _ _); refine wpl_want rfl ?_) | ((with_reducible show wpList _ _ _ _ _ _); refine wpl_b2s rfl 25 9 5 _ rfl Tryz.underlying25 Tryz.underlying5 Tryz.underlying9 (by exact hx) ?_))
    go_ret
    exact ⟨rfl, hbare.out⟩
  · rw [mayE_nil] at h
    cases h
end Go.Proofs.YtlfdnlomlbbicaaGreatDoor

namespace Go.Proofs.YtlfdnlomlbbicaaGreatDoor
open Go.RowKit Go.Mx
theorem lists_same (v v' : Value) (ls : List (List UInt8)) (w : World) (hv : LL w v ls) (hv' : LL w v' ls) :
    Calls Tryz.prog 11 #[v, v'] w fun e w' => e = .returned (.bool true) ∧ St w w' [] [] := by
  obtain ⟨ao, cap, blk, off, us, rfl, h1, h2, hc, hd⟩ := hv.at
  obtain ⟨ao', cap', blk', off', us', rfl, h1', h2', hc', hd'⟩ := hv'.at
  clear hv hv'
  have HC := Mx.hid hc
  have HC' := Mx.hid hc'
  have HD := Mx.hid hd
  have HD' := Mx.hid hd'
  clear hc hc' hd hd'
  have hb : ((ls.length : Int) != (ls.length : Int)) = false := by simp
  go_enter Tryz.func11, Tryz.ntmps11
  go_wp2_with fail
  go_loopw [5] (fun x wr => ∃ i : Nat, i ≤ ls.length ∧ x = .int .i64 i ∧ St w wr [] []) (fun x _ => ls.length - (intOf x).toNat)
  case atStart => exact ⟨0, by omega, rfl, St.refl w⟩
  case round =>
    obtain ⟨i, hi, rfl, hs⟩ := hrel
    by_cases hlt : i < ls.length
    · obtain ⟨rfl, c1⟩ := HC.out i hlt
      obtain ⟨rfl, c2⟩ := HC'.out i hlt
      have c1 := hs.keep c1
      have c2 := hs.keep c2
      have d1 := hs.old (HD.out i hlt)
      have d2 := hs.old (HD'.out i hlt)
      have hii : (i : Int) < (ls.length : Int) := by omega
      obtain ⟨z1, y1, e1, _⟩ := d1
      have d1 := hs.old (HD.out i hlt)
      obtain ⟨z2, y2, e2, _⟩ := d2
      have d2 := hs.old (HD'.out i hlt)
      rw [e1] at c1 d1
      rw [e2] at c2 d2
      clear e1 e2
      have hX : ∀ w', St wr w' [] [] → Calls Tryz.prog 10 #[.slice z1 ls[i].length y1, .slice z2 ls[i].length y2] w' fun e w'' => e = .returned (.bool true) ∧ w'' = w' := fun w' h =>
        (bytes_any _ _ ls[i] ls[i] w' (h.old d1) (h.old d2)).mono fun e w'' g => by rw [decide_eq_true (rfl : ls[i] = ls[i])] at g; exact ⟨g.1, g.2.symm⟩
      have HX := Mx.hid hX
      clear hX
      go_wp2_with fail
      go_quiet ((go_at_call 10; exact Calls.quiet_of_same (HX.out _ ((St.refl wr).drewN _))))
      go_wp2_with fail
      go_roundw
      case rel => exact ⟨i + 1, by omega, by go_num, hs.drewN _⟩
      case measure => simp [intOf]; omega
    · go_wp2_with fail
      go_ret
      exact ⟨rfl, hs⟩

end Go.Proofs.YtlfdnlomlbbicaaGreatDoor
