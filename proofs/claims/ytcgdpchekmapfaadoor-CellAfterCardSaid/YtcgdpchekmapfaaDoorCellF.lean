/- marlaw3.first. -/
import Derived.Test.YtcgdpchekmapfaaDoorCell
namespace Go.Proofs.YtcgdpchekmapfaaDoor
open Go.RowKit Go.Mx

set_option maxRecDepth 100000 in
set_option maxHeartbeats 2000000 in
theorem cfirst_any (w : World) (hL : Laid w) : Calls Tryd.prog 33 #[] w fun e w' => e = .returned (.bool true) ∧ St w w' [] [] := by
  have kc := fun (w : World) (C : Array Value) (n c : Nat) => Lib.run_convert_bytes_const (P := Tryd.prog) w 22 5 C n c Tryd.underlying22 Tryd.underlying5
  have q1 := (St.refl w).madeMAt #[.int .u8 97, .int .u8 98, .int .u8 99] 5 1 3 w.heap.size rfl (by simp [maxLen]) rfl
  have HQ := Mx.hid q1
  have HL := Mx.hid (fun w' (h : St w w' [] []) => hL.keep h)
  clear q1 hL
  go_enter Tryd.func33, Tryd.ntmps33
  go_wp2_with fail
  refine (newlz_any w _ [] [] _ [97, 98, 99] HQ.out.sl0 HQ.out.bare (by simp)).mono ?_
  rintro e w1 ⟨g, v, rfl, hs1⟩
  clear HQ
  go_wp2_with (first | ((with_reducible show wpList _ _ _ _ _ _); refine wpl_want rfl ?_))
  refine (newcell_any ⟨#[97]⟩ w1).mono ?_
  rintro e w2 ⟨gc, gp, rfl, hk⟩
  have hs2 : St w w2 [PC gc gp, TX gp ⟨#[97]⟩, LZ g v [97, 98, 99] false] [rdb v [97, 98, 99]] := hs1.call hk
  clear hs1 hk
  go_wp2_with (first | ((with_reducible show wpList _ _ _ _ _ _); refine wpl_want rfl ?_))
  refine (ltimes_any w w2 _ _ g v [97, 98, 99] false (hs2.perm (List.perm_append_comm (l₁ := [_, _]) (l₂ := [_])))).mono ?_
  rintro e w' ⟨rfl, rfl⟩
  have hs3 := hs2.perm (List.perm_append_comm (l₁ := [_, _]) (l₂ := [_]))
  go_wp2_with (first | ((with_reducible show wpList _ _ _ _ _ _); refine wpl_want rfl ?_))
  refine (lid_any w w2 _ _ g v [97, 98, 99] false hs3 (by simp) HL.out).mono ?_
  rintro e w3 ⟨rfl, hs4⟩
  clear hs2 hs3
  go_wp2_with (first | ((with_reducible show wpList _ _ _ _ _ _); refine wpl_want rfl ?_))
  refine (lid_any w w3 _ _ g v [97, 98, 99] true hs4 (by simp) HL.out).mono ?_
  rintro e w4 ⟨rfl, hs5⟩
  clear hs4
  generalize str (hexL (sha [97, 98, 99])) = d at *
  have t1 : (d.toList == d.toList) = true := by simp
  go_wp2_with (first | ((with_reducible show wpList _ _ _ _ _ _); refine wpl_want rfl ?_))
  refine (ltimes_any w w4 _ _ g v [97, 98, 99] true hs5).mono ?_
  rintro e w' ⟨rfl, rfl⟩
  have hs6 : St w w4 [PC gc gp, TX gp ⟨#[97]⟩] _ := hs5.tail
  clear hs5
  go_wp2_with (first | ((with_reducible show wpList _ _ _ _ _ _); refine wpl_want rfl ?_))
  refine (cellswap_any w w4 _ _ gc gp ⟨#[97]⟩ ⟨#[98]⟩ ⟨#[99]⟩ hs6).mono ?_
  rintro e w5 ⟨gq, rfl, hs7⟩
  rw [if_neg (by rw [ByteArray.toList_eq, ByteArray.toList_eq]; decide)] at hs7
  rw [show ((⟨#[97]⟩ : ByteArray).toList == (⟨#[98]⟩ : ByteArray).toList) = false by rw [ByteArray.toList_eq, ByteArray.toList_eq]; decide]
  go_wp2_with (first | ((with_reducible show wpList _ _ _ _ _ _); refine wpl_want rfl ?_))
  refine (cellswap_any w w5 _ _ gc gq ⟨#[97]⟩ ⟨#[97]⟩ ⟨#[99]⟩ hs7).mono ?_
  rintro e w6 ⟨gr, rfl, hs8⟩
  rw [if_pos (by rw [ByteArray.toList_eq]; decide)] at hs8
  rw [show ((⟨#[97]⟩ : ByteArray).toList == (⟨#[97]⟩ : ByteArray).toList) = true by rw [ByteArray.toList_eq]; decide]
  go_wp2_with (first | ((with_reducible show wpList _ _ _ _ _ _); refine wpl_want rfl ?_))
  refine (cellget_any w w6 _ _ gc gr ⟨#[99]⟩ hs8).mono ?_
  rintro e w' ⟨rfl, rfl⟩
  go_wp2_with (first | ((with_reducible show wpList _ _ _ _ _ _); refine wpl_want rfl ?_))
  go_ret
  exact ⟨rfl, hs8.bare⟩
end Go.Proofs.YtcgdpchekmapfaaDoor
