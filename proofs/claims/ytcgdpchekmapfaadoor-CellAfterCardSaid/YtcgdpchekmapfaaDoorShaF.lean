/- marlaw1.first. -/
import Derived.Test.YtcgdpchekmapfaaDoorShaH
namespace Go.Mx
open Go Go.RowKit
theorem hex_abc : hexL (sha [97, 98, 99]) = [98, 97, 55, 56, 49, 54, 98, 102, 56, 102, 48, 49, 99, 102, 101, 97, 52, 49, 52, 49, 52, 48, 100, 101, 53, 100, 97, 101, 50, 50, 50, 51, 98, 48, 48, 51, 54, 49, 97, 51, 57, 54, 49, 55, 55, 97, 57, 99, 98, 52, 49, 48, 102, 102, 54, 49, 102, 50, 48, 48, 49, 53, 97, 100] := by
  rw [sha_abc]; decide +kernel
theorem hexL_take : ∀ (n : Nat) (l : List UInt8), (hexL l).take (2 * n) = hexL (l.take n)
  | 0, l => by simp [hexL]
  | n + 1, [] => by simp [hexL]
  | n + 1, x :: l => by
    rw [show 2 * (n + 1) = 2 * n + 1 + 1 by omega, hexL, List.take_succ_cons, List.take_succ_cons, hexL_take n l, List.take_succ_cons, hexL]
theorem St.madeMAt {w0 w : World} {R : List Row} {Q : List Rd} (h : St w0 w R Q) (cells : Array Value) (e : TypeId) (size n g : Nat) (hn : cells.size = n * size) (hm : n ≤ maxLen) (hg : g = w.heap.size) :
    St w0 (w.alloc (.cells cells e (cells.size, cells.size + 1))) (⟨.slice (some ⟨g, 0, none⟩) n n, e, size, n, cells.toList⟩ :: R) Q := by
  subst hg; exact h.madeM cells e size n hn hm
theorem hex_nil8 : (hexL (sha [])).take 8 = [101, 51, 98, 48, 99, 52, 52, 50] := by
  rw [show 8 = 2 * 4 from rfl, hexL_take, sha_nil]; decide +kernel
end Go.Mx
namespace Go.Proofs.YtcgdpchekmapfaaDoor
open Go.RowKit Go.Mx
set_option maxRecDepth 100000 in
set_option maxHeartbeats 2000000 in
theorem first_any (w : World) (hL : Laid w) : Calls Tryd.prog 15 #[] w fun e w' => e = .returned (.bool true) ∧ St w w' [] [] := by
  have kc := fun (w : World) (C : Array Value) (n c : Nat) => Lib.run_convert_bytes_const (P := Tryd.prog) w 22 5 C n c Tryd.underlying22 Tryd.underlying5
  have q1 := (St.refl w).madeMAt #[.int .u8 97, .int .u8 98, .int .u8 99] 5 1 3 w.heap.size rfl (by simp [maxLen]) rfl
  have HQ := Mx.hid q1
  have HL := Mx.hid (fun w' (h : St w w' [] []) => hL.keep h)
  clear q1 hL
  go_enter Tryd.func15, Tryd.ntmps15
  go_wp2_with fail
  refine (id_any _ [97, 98, 99] _ HQ.out.sl0 (by simp) (fun w' h => HL.out _ (HQ.out.bare.call0 h))).mono ?_
  rintro e w1 ⟨rfl, hk1⟩
  have hs1 := HQ.out.bare.call0 hk1
  rw [hex_abc]
  have ht : ((str [98, 97, 55, 56, 49, 54, 98, 102, 56, 102, 48, 49, 99, 102, 101, 97, 52, 49, 52, 49, 52, 48, 100, 101, 53, 100, 97, 101, 50, 50, 50, 51, 98, 48, 48, 51, 54, 49, 97, 51, 57, 54, 49, 55, 55, 97, 57, 99, 98, 52, 49, 48, 102, 102, 54, 49, 102, 50, 48, 48, 49, 53, 97, 100]).toList == [98, 97, 55, 56, 49, 54, 98, 102, 56, 102, 48, 49, 99, 102, 101, 97, 52, 49, 52, 49, 52, 48, 100, 101, 53, 100, 97, 101, 50, 50, 50, 51, 98, 48, 48, 51, 54, 49, 97, 51, 57, 54, 49, 55, 55, 97, 57, 99, 98, 52, 49, 48, 102, 102, 54, 49, 102, 50, 48, 48, 49, 53, 97, 100]) = true := by rw [str_toL]; rfl
  go_wp2_with (first | ((with_reducible show wpList _ _ _ _ _ _); refine wpl_want rfl ?_))
  refine (sum_any w1 _ [] (Sl.nil _ 1) (by simp) (fun w' h => HL.out _ (hs1.call0 h))).mono ?_
  rintro e w2 ⟨v2, rfl, hk2⟩
  have hs2 := hs1.call0 hk2.bare
  have hv2 : Sl w2 1 v2 32 (bs (sha [])) := hk2.sl0
  obtain ⟨vo, vc, rfl, _⟩ := hv2
  go_wp2_with (first | ((with_reducible show wpList _ _ _ _ _ _); refine wpl_want rfl ?_))
  refine (id_any _ [] _ (Sl.nil _ 1) (by simp) (fun w' h => HL.out _ (hs2.call0 h))).mono ?_
  rintro e w3 ⟨rfl, hk3⟩
  have hs3 := hs2.call0 hk3
  have h8 := hex_nil8
  have h64 : (hexL (sha [])).length = 64 := by rw [hexL_len, sha_len]
  generalize hexL (sha []) = L at *
  have hsz : 8 ≤ (str L).size := by rw [str_size, h64]; omega
  have ht2 : (((str L).extract 0 8).toList == [101, 51, 98, 48, 99, 52, 52, 50]) = true := by
    rw [ByteArray.toList_eq, ByteArray.data_extract]
    simp [str, h8]
  clear h8 h64
  go_wp2_with (first | ((with_reducible show wpList _ _ _ _ _ _); refine wpl_want rfl ?_))
  go_ret
  exact ⟨rfl, hs3⟩
end Go.Proofs.YtcgdpchekmapfaaDoor
