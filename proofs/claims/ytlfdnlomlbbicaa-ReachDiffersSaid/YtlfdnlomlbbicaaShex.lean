/- The walk of sha.Hex. -/
import Derived.Test.YtlfdnlomlbbicaaHex
namespace Go.Proofs.Ytlfdnlomlbbicaa
open Go.RowKit Go.Mx

theorem Sl.two (w : World) (x y : Value) (e : TypeId) : Sl (w.alloc (.cells #[x, y] e)) 1 (.slice (some ⟨w.heap.size, 0, none⟩) 2 2) 2 [x, y] :=
  ((St.refl w).made #[x, y] e 1 2 rfl (by simp [maxLen])).sl0

set_option maxHeartbeats 1000000 in
theorem shex_any (v : Value) (b : List UInt8) (w : World) (hv : Sl w 1 v b.length (bs b)) (hl : b.length ≤ 1000000000) :
    Calls Try.prog 87 #[v] w fun e w' => e = .returned (.string (str (hexL b))) ∧ St w w' [] [] := by
  obtain ⟨ao, cap, blk, off, rfl, h1, h2, _, hc⟩ := hv.byt
  clear hv
  have HC := Mx.hid hc
  clear hc
  go_enter Try.func87, Try.ntmps87
  go_wp2_with fail
  go_loopw [3, 8] (fun x y wr => ∃ (i : Nat) (acc : List UInt8), i ≤ b.length ∧ Hid (acc.length = 2 * i) ∧ y = .int .i64 i ∧ Hid (acc = hexL (b.take i)) ∧ St w wr [⟨x, 5, 1, acc.length, bs acc⟩] []) (fun _ y _ => b.length - (intOf y).toNat)
  case atStart => exact ⟨0, [], by omega, rfl, rfl, rfl, St.nil _ _ _⟩
  case round =>
    obtain ⟨i, acc, hi, Ha, rfl, He, hs⟩ := hrel
    by_cases hlt : i < b.length
    · obtain ⟨rfl, c0⟩ := HC.out i hlt
      have hal : acc.length ≤ 2000000000 := by have := Ha.out; omega
      have HX := Mx.hid (show hexL (b.take (i + 1)) = acc ++ [dig (b[i].toNat / 16), dig (b[i].toNat % 16)] by
        rw [List.take_succ_eq_append_getElem hlt, hexL_app, ← He.out]; rfl)
      have c1 := hs.keep c0
      have hii : (i : Int) < (b.length : Int) := by omega
      have hx := u8_lt b[i]
      obtain ⟨k1, k2, e1, e2, g1, g2, q1, q2⟩ : ∃ k1 k2 : Nat, (b[i].toNat : Int) / 16 = (k1 : Int) ∧ bits BinOp.and IntKind.u8 (b[i].toNat : Int) 15 = (k2 : Int) ∧ (k1 : Int) < 16 ∧ (k2 : Int) < 16 ∧ Hid (b[i].toNat / 16 = k1) ∧ Hid (b[i].toNat % 16 = k2) :=
        ⟨b[i].toNat / 16, b[i].toNat % 16, by omega, u8_and15 _, by omega, by omega, rfl, rfl⟩
      go_wp2_with fail
      go_region_held3 (fun W => W.cell? ⟨blk, off + i, none⟩ = some (.int .u8 (b[i].toNat : Int))) (first | exact hs1.keep c0 | go_keep) ((refine step_app rfl _ _ 22 rfl Try.elU8 (by exact hs.drew.alloc _) rfl (by exact Sl.two _ _ _ _) (by intro u hu; simp at hu; rcases hu with rfl | rfl <;> rfl) (by omega) ?_; intro v1 w1 hs1 _))
      go_wp2_with fail
      case roundEnd => exact ⟨⟨i + 1, acc ++ [dig (b[i].toNat / 16), dig (b[i].toNat % 16)], by omega, Mx.hid (by have := Ha.out; simp; omega), by go_num, HX.out.symm, hs1.cast (by simp) (by rw [bs_app, q1.out, q2.out, dig_at k1 (by omega), dig_at k2 (by omega)]; rfl)⟩, by simp [intOf]; omega⟩
      go_roundw
      case rel => exact ⟨i + 1, acc ++ [dig (b[i].toNat / 16), dig (b[i].toNat % 16)], by omega, Mx.hid (by have := Ha.out; simp; omega), by go_num, HX.out.symm, hs1.cast (by simp) (by rw [bs_app, q1.out, q2.out, dig_at k1 (by omega), dig_at k2 (by omega)]; rfl)⟩
      case measure => simp [intOf]; omega
    · have HE := Mx.hid (show acc = hexL b by rw [He.out, List.take_of_length_le (by omega)])
      go_wp2_with ((with_reducible show wpList _ _ _ _ _ _); refine wpl_b2s rfl 22 9 5 _ rfl Try.underlying22 Try.underlying5 Try.underlying9 (by exact hs.sl0) ?_)
      go_ret
      exact ⟨by rw [HE.out]; rfl, hs.bare⟩
end Go.Proofs.Ytlfdnlomlbbicaa
