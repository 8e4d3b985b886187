/- Walks of the small functions that many statements use: bytes and texts held against one another, copies. -/
import Derived.Test.YtcgdpchekmapfaaDoorRows
import Derived.Test.YtcgdpchekmapfaaDoorLib3
import Derived.Test.YtcgdpchekmapfaaDoorOrd
namespace Go.Proofs.YtcgdpchekmapfaaDoor
open Go.RowKit Go.Mx

theorem Tryd.elU8 : El Tryd.prog 22 5 1 1 := El.mk' Tryd.underlying22 (z := .int .u8 0) (by kernel_rfl) rfl (by omega)

theorem Tryd.elStr : El Tryd.prog 65 9 1 16 := El.mk' Tryd.underlying65 (z := .string ByteArray.empty) (by kernel_rfl) rfl (by omega)

theorem Tryd.elInt : El Tryd.prog 41 3 1 8 := El.mk' Tryd.underlying41 (z := .int .i64 0) (by kernel_rfl) rfl (by omega)
theorem Tryd.elBs : El Tryd.prog 31 22 1 24 := El.mk' Tryd.underlying31 (z := .slice none 0 0) (by kernel_rfl) rfl (by omega)

theorem u8_nat {m : Nat} (h : m < 256) : ((UInt8.ofNat m).toNat : Int) = m := by
  rw [UInt8.toNat_ofNat']; omega

/-- Cells that were read before are read behind. -/
theorem keepC {w0 w : World} {R : List Row} {Q : List Rd} (h : St w0 w R Q) {n : Nat} {p : Prop} {blk off : Nat} {f : (k : Nat) → k < n → Value} (C : Hid (∀ k (hk : k < n), p ∧ w0.cell? ⟨blk, off + k, none⟩ = some (f k hk))) :
    Hid (∀ k (hk : k < n), p ∧ w.cell? ⟨blk, off + k, none⟩ = some (f k hk)) := fun k hk => ⟨(C.out k hk).1, h.keep (C.out k hk).2⟩

theorem tx_beq {x y : ByteArray} (h : x = y) : (x.toList == y.toList) = true := by simp [h]
theorem tx_bne {x y : ByteArray} (h : x ≠ y) : (x.toList == y.toList) = false := by
  simp only [beq_eq_false_iff_ne, ne_eq]
  exact fun h' => h (toL_inj h')

theorem tx_ite (x y : ByteArray) : (if (x.toList == y.toList) = true then 1 else 0) = if x = y then 1 else 0 := by
  by_cases h : x = y
  · rw [tx_beq h, if_pos h]; rfl
  · rw [tx_bne h, if_neg h]; rfl

theorem copyBytes_any (v : Value) (l : List UInt8) (w : World) (hv : Sl w 1 v l.length (bs l)) (hl : l.length ≤ 140737488355328) :
    Calls Tryd.prog 20 #[v] w fun e w' => ∃ v', e = .returned v' ∧ St w w' [⟨v', 5, 1, l.length, bs l⟩] [] := by
  have hs := (St.refl w).made #[] 5 1 0 rfl (by simp)
  go_enter Tryd.func20, Tryd.ntmps20
  go_wp2_with (at_builtin; refine wpl_app rfl _ _ 22 rfl Tryd.elU8 hs rfl (by exact hs.old hv) (bs_one _) (by omega) ?_; intro v1 w1 hs1 _)
  go_ret
  exact ⟨_, rfl, hs1.cast (by simp) (by simp)⟩

theorem bytes_any (v v' : Value) (l l' : List UInt8) (w : World) (hv : Sl w 1 v l.length (bs l)) (hv' : Sl w 1 v' l'.length (bs l')) :
    Calls Tryd.prog 21 #[v, v'] w fun e w' => e = .returned (.bool (decide (l = l'))) ∧ w = w' := by
  go_enter Tryd.func21, Tryd.ntmps21
  go_wp2_with (first | ((with_reducible show wpList _ _ _ _ _ _); refine wpl_b2s rfl 22 9 5 _ rfl Tryd.underlying22 Tryd.underlying5 Tryd.underlying9 (by exact hv) ?_) | ((with_reducible show wpList _ _ _ _ _ _); refine wpl_b2s rfl 22 9 5 _ rfl Tryd.underlying22 Tryd.underlying5 Tryd.underlying9 (by exact hv') ?_))
  go_ret
  exact ⟨by rw [← str_beq]; rfl, rfl⟩

end Go.Proofs.YtcgdpchekmapfaaDoor
