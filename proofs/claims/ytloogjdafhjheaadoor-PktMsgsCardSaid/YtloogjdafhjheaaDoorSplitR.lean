/- Walks of the document's Text, Split, Join and of marref.Split. -/
import Derived.Test.YtloogjdafhjheaaDoorSplit
namespace Go.Proofs.YtloogjdafhjheaaDoor
open Go.RowKit Go.Mx

set_option maxRecDepth 100000 in
set_option maxHeartbeats 2000000 in
theorem refCut_any (s : ByteArray) (c : UInt8) (w : World) (hl : s.size ≤ 4294967296) :
    Calls Tryd.prog 32 #[.string s, .int .u8 (c.toNat : Int)] w fun e w' => ∃ v', e = .returned v' ∧ St w w' [⟨v', 9, 1, (pcs c 0 s.data.toList).length, ss (tx (pcs c 0 s.data.toList))⟩] [] := by
  obtain ⟨l, hsl⟩ : ∃ l, l = s.data.toList := ⟨_, rfl⟩
  have hZ : s.size = l.length := by rw [hsl, Array.length_toList]; rfl
  have HG : Hid (∀ i (h : i < l.length) (h' : i < s.size), s[i] = l[i]) := fun i h h' => by
    subst hsl
    rw [Array.getElem_toList]
    rfl
  have HE : Hid (∀ f i, s.extract f i = str ((l.take i).drop f)) := fun f i => by
    subst hsl
    apply ByteArray.ext
    rw [ByteArray.data_extract]
    apply Array.ext'
    simp [str, List.drop_take]
  rw [← hsl]
  have HZ := Mx.hid hZ
  clear hsl hZ
  go_enter Tryd.func32, Tryd.ntmps32
  go_wp2_with fail
  go_loopw [5, 6, 7] (fun o x y wr => ∃ (f i : Nat) (acc : List (List UInt8)), f ≤ i ∧ i ≤ l.length + 1 ∧ x = .int .i64 f ∧ y = .int .i64 i ∧ acc.length ≤ i ∧ Hid (i ≤ l.length → pcs c 0 l = acc ++ pcs c 0 (l.drop f)) ∧ Hid (i = l.length + 1 → pcs c 0 l = acc) ∧ Hid (c ∉ (l.take i).drop f) ∧ St w wr [⟨o, 9, 1, acc.length, ss (tx acc)⟩] []) (fun _ _ y _ => l.length + 1 - (intOf y).toNat)
  case atStart => exact ⟨0, 0, [], by omega, by omega, rfl, rfl, by simp, fun _ => by simp, fun h => by omega, by simp [Hid], St.nil _ _ _⟩
  case round =>
    obtain ⟨f, i, acc, hf, hi, rfl, rfl, hac, Hl, Hend, Hn, hs⟩ := hrel
    have hz : s.size = l.length := HZ.out
    by_cases hlt : i < l.length + 1
    · have hii : (i : Int) ≤ (s.size : Int) := by omega
      have hE := HE.out f i
      by_cases hend : i = l.length
      · have HP : Hid (pcs c 0 l = acc ++ [(l.take i).drop f]) := by
          show _ = _
          rw [Hl.out (by omega), ← seg_all (f := f) (show l.length ≤ i by omega), pcs_none Hn.out]
        have g1 : ((i : Int) == (l.length : Int)) = true := by simp [hend]
        have HI := Mx.hid hend
        have hil : i ≤ l.length := by omega
        clear hend
        go_wp2_with (at_builtin; refine wpl_app rfl _ _ 22 rfl Tryd.elStr (hs.alloc _) rfl (by exact Sl.one _ _ _) (by intro u hu; simp at hu; subst hu; rfl) (by omega) ?_; intro v1 w1 hs1 _)
        go_roundw
        case rel => exact ⟨i + 1, i + 1, acc ++ [(l.take i).drop f], by omega, by omega, by go_num, by go_num, by simp; omega, fun h => by have := HI.out; omega, fun _ => HP.out, by rw [seg_self]; exact List.not_mem_nil, hs1.cast (by simp) (by rw [tx_app, ss_app]; rfl)⟩
        case measure => simp [intOf]; omega
      · have hil : i < l.length := by omega
        have g1 : ((i : Int) == (l.length : Int)) = false := by simp; omega
        have hget := HG.out i hil (by omega)
        have HX := Mx.hid (seg_snoc hf hil)
        have HD := Mx.hid (seg_drop hf hil)
        generalize l[i] = x at *
        by_cases hx : x = c
        · have HP : Hid (pcs c 0 l = (acc ++ [(l.take i).drop f]) ++ pcs c 0 (l.drop (i + 1))) := by
            show _ = _
            rw [Hl.out (by omega), HD.out, hx, pcs_cut Hn.out]
            simp
          have g2 : ((x.toNat : Int) == (c.toNat : Int)) = true := by simp [hx]
          clear hx
          go_wp2_with (at_builtin; refine wpl_app rfl _ _ 22 rfl Tryd.elStr (hs.alloc _) rfl (by exact Sl.one _ _ _) (by intro u hu; simp at hu; subst hu; rfl) (by omega) ?_; intro v1 w1 hs1 _)
          go_roundw
          case rel => exact ⟨i + 1, i + 1, acc ++ [(l.take i).drop f], by omega, by omega, by go_num, by go_num, by simp; omega, fun _ => HP.out, fun h => by omega, by rw [seg_self]; exact List.not_mem_nil, hs1.cast (by simp) (by rw [tx_app, ss_app]; rfl)⟩
          case measure => simp [intOf]; omega
        · have g2 : ((x.toNat : Int) == (c.toNat : Int)) = false := by
            simp only [beq_eq_false_iff_ne, ne_eq]
            intro h'; exact hx (UInt8.toNat_inj.1 (Int.ofNat.inj h'))
          have HN2 : Hid (c ∉ (l.take (i + 1)).drop f) := by
            show _ ∉ _
            rw [HX.out]; intro h; rcases List.mem_append.1 h with h | h; exact Hn.out h; exact hx (List.mem_singleton.1 h).symm
          clear hx
          go_wp2_with fail
          go_roundw
          case rel => exact ⟨f, i + 1, acc, by omega, by omega, rfl, by go_num, by omega, fun _ => Hl.out (by omega), fun h => by omega, HN2, hs⟩
          case measure => simp [intOf]; omega
    · go_wp2_with fail
      go_ret
      have e : acc = pcs c 0 l := (Hend.out (by omega)).symm
      subst e
      exact ⟨_, rfl, hs⟩
end Go.Proofs.YtloogjdafhjheaaDoor
