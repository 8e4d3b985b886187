/- Walks of slices.Equal over texts and items; obj.Refs, Same. -/
import Derived.Test.YtlfdnlomlbbicaaObjD
namespace Go.Proofs.Ytlfdnlomlbbicaa
open Go.RowKit Go.Mx

theorem decode_any (v : Value) (l : List UInt8) (w : World) (hv : Sl w 1 v l.length (bs l)) (hl : l.length ≤ 1000000000) :
    Calls Try.prog 13 #[v] w (DecPost w l) := by
  match l, hv, hl with
  | [], hv, _ => exact decode_nil v w hv
  | k :: r, hv, hl => exact decode_cons v k r w hv hl

theorem sEq_any (v v' : Value) (l l' : List ByteArray) (w : World) (hv : Sl w 1 v l.length (ss l)) (hv' : Sl w 1 v' l'.length (ss l')) :
    Calls Try.prog 54 #[v, v'] w fun e w' => e = .returned (.bool (decide (l = l'))) ∧ St w w' [] [] := by
  obtain ⟨ao, cap, blk, off, rfl, h1, h2, _, hc⟩ := hv.txt
  obtain ⟨ao', cap', blk', off', rfl, h1', h2', _, hc'⟩ := hv'.txt
  clear hv hv'
  have HC := hid hc
  have HC' := hid hc'
  clear hc hc'
  by_cases he : l.length = l'.length
  · have hb : ((l.length : Int) != (l'.length : Int)) = false := by simp [he]
    have He := hid he
    clear he
    go_enter Try.func54, Try.ntmps54
    go_wp2_with fail
    go_loopw [13] (fun x wr => ∃ i : Nat, i ≤ l.length ∧ x = .int .i64 i ∧ Hid (l.take i = l'.take i) ∧ St w wr [] []) (fun x _ => l.length - (intOf x).toNat)
    case atStart => exact ⟨0, by omega, rfl, by simp [Hid], St.refl w⟩
    case round =>
      obtain ⟨i, hi, rfl, Ht, hs⟩ := hrel
      by_cases hlt : i < l.length
      · have hlt' : i < l'.length := by have := He.out; omega
        obtain ⟨rfl, c1⟩ := HC.out i hlt
        obtain ⟨rfl, c2⟩ := HC'.out i hlt'
        have c1 := hs.keep c1
        have c2 := hs.keep c2
        have hii : (i : Int) < (l.length : Int) := by omega
        have hii' : (i : Int) < (l'.length : Int) := by omega
        by_cases hx : l[i] = l'[i]
        · have hb := tx_beq hx
          have Hx := hid hx
          clear hx
          go_wp2_with fail
          go_quiet (fail)
          go_wp2_with fail
          go_roundw
          case rel => exact ⟨i + 1, by omega, by go_num, by rw [List.take_succ_eq_append_getElem hlt, List.take_succ_eq_append_getElem hlt', Ht.out, Hx.out]; rfl, hs.drewN _⟩
          case measure => simp [intOf]; omega
        · have hb := tx_bne hx
          have Hx := hid hx
          clear hx
          go_wp2_with fail
          go_quiet (fail)
          go_wp2_with fail
          go_ret
          have hne : l ≠ l' := by intro h; subst h; exact Hx.out rfl
          exact ⟨by rw [decide_eq_false hne]; rfl, hs.drewN _⟩
      · go_wp2_with fail
        go_ret
        have heq : l = l' := by have h1 := Ht.out; rw [List.take_of_length_le (by omega), List.take_of_length_le (by have := He.out; omega)] at h1; exact h1
        exact ⟨by rw [decide_eq_true heq]; rfl, hs⟩
  · have hb : ((l.length : Int) != (l'.length : Int)) = true := by simp; omega
    have hne : l ≠ l' := by rintro rfl; exact he rfl
    have He := hid he
    have Hne := hid hne
    clear he hne
    go_enter Try.func54, Try.ntmps54
    go_wp2_with fail
    go_ret
    exact ⟨by rw [decide_eq_false Hne.out]; rfl, St.refl w⟩

theorem itm_cells {w : World} {v : Value} {l : List Itm} (hv : Sl w 3 v l.length (itms l)) : ∃ ao cap blk off, v = .slice ao l.length cap ∧ l.length ≤ cap ∧ cap ≤ 9223372036854775807 ∧ ∀ (i : Nat) (hi : i < l.length), ao = some ⟨blk, off, none⟩ ∧ w.cell? ⟨blk, off + i * 3, none⟩ = some (.int .i64 l[i].1) ∧ w.cell? ⟨blk, off + i * 3 + 1, none⟩ = some (.string l[i].2.1) ∧ w.cell? ⟨blk, off + i * 3 + 2, none⟩ = some (.string l[i].2.2) := by
  obtain ⟨ao, cap, blk, off, rfl, hc1, hc2, _, hcell⟩ := hv.anyC
  refine ⟨ao, cap, blk, off, rfl, hc1, hc2, fun i hi => ?_⟩
  have g0 := hcell (i * 3 + 0) _ ((flat_get (k := 3) (fun _ => rfl) l (by omega) hi).trans (show (itmRow l[i])[0]? = some (.int .i64 l[i].1) from rfl))
  have g1 := hcell (i * 3 + 1) _ ((flat_get (k := 3) (fun _ => rfl) l (by omega) hi).trans (show (itmRow l[i])[1]? = some (.string l[i].2.1) from rfl))
  have g2 := hcell (i * 3 + 2) _ ((flat_get (k := 3) (fun _ => rfl) l (by omega) hi).trans (show (itmRow l[i])[2]? = some (.string l[i].2.2) from rfl))
  exact ⟨g0.1, g0.2, g1.2, g2.2⟩

theorem iEq_any (v v' : Value) (l l' : List Itm) (w : World) (hv : Sl w 3 v l.length (itms l)) (hv' : Sl w 3 v' l'.length (itms l')) :
    Calls Try.prog 53 #[v, v'] w fun e w' => e = .returned (.bool (decide (l = l'))) ∧ St w w' [] [] := by
  obtain ⟨ao, cap, blk, off, rfl, h1, h2, hc⟩ := itm_cells hv
  obtain ⟨ao', cap', blk', off', rfl, h1', h2', hc'⟩ := itm_cells hv'
  clear hv hv'
  have HC := hid hc
  have HC' := hid hc'
  clear hc hc'
  by_cases he : l.length = l'.length
  · have hb : ((l.length : Int) != (l'.length : Int)) = false := by simp [he]
    have He := hid he
    clear he
    go_enter Try.func53, Try.ntmps53
    go_wp2_with fail
    go_loopw [13] (fun x wr => ∃ i : Nat, i ≤ l.length ∧ x = .int .i64 i ∧ Hid (l.take i = l'.take i) ∧ St w wr [] []) (fun x _ => l.length - (intOf x).toNat)
    case atStart => exact ⟨0, by omega, rfl, by simp [Hid], St.refl w⟩
    case round =>
      obtain ⟨i, hi, rfl, Ht, hs⟩ := hrel
      by_cases hlt : i < l.length
      · have hlt' : i < l'.length := by have := He.out; omega
        obtain ⟨rfl, c0, c1, c2⟩ := HC.out i hlt
        obtain ⟨rfl, d0, d1, d2⟩ := HC'.out i hlt'
        have c0 := hs.keep c0
        have c1 := hs.keep c1
        have c2 := hs.keep c2
        have d0 := hs.keep d0
        have d1 := hs.keep d1
        have d2 := hs.keep d2
        have hii : (i : Int) < (l.length : Int) := by omega
        have hii' : (i : Int) < (l'.length : Int) := by omega
        have HT := Mx.hid (fun (hx : l[i] = l'[i]) => (show l.take (i + 1) = l'.take (i + 1) by rw [List.take_succ_eq_append_getElem hlt, List.take_succ_eq_append_getElem hlt', Ht.out, hx]))
        have HN := Mx.hid (fun (hx : ¬ l[i] = l'[i]) => (show l ≠ l' by intro h; subst h; exact hx rfl))
        generalize l[i] = y at *
        generalize l'[i] = y' at *
        obtain ⟨m, nme, hsh⟩ := y
        obtain ⟨m', nme', hsh'⟩ := y'
        simp only [Prod.mk.injEq] at *
        by_cases hx : m = m' ∧ nme = nme' ∧ hsh = hsh'
        · obtain ⟨rfl, rfl, rfl⟩ := hx
          go_wp2_with fail
          go_quiet (fail)
          go_wp2_with fail
          go_roundw
          case rel => exact ⟨i + 1, by omega, by go_num, HT.out (by simp), hs.drewN _⟩
          case measure => simp [intOf]; omega
        · have HX := Mx.hid (HN.out hx)
          have hc : ¬ m = m' ∨ (m = m' ∧ ¬ nme.toList = nme'.toList) ∨ (m = m' ∧ nme = nme' ∧ ¬ hsh.toList = hsh'.toList) := by
            by_cases g1 : m = m'
            · by_cases g2 : nme = nme'
              · exact .inr (.inr ⟨g1, g2, fun h => hx ⟨g1, g2, toL_inj h⟩⟩)
              · exact .inr (.inl ⟨g1, fun h => g2 (toL_inj h)⟩)
            · exact .inl g1
          clear hx HN HT
          rcases hc with g1 | ⟨rfl, g2⟩ | ⟨rfl, rfl, g3⟩
          · go_wp2_with fail
            go_quiet (fail)
            go_wp2_with fail
            go_ret
            exact ⟨by rw [decide_eq_false HX.out]; rfl, hs.drewN _⟩
          · go_wp2_with fail
            go_quiet (fail)
            go_wp2_with fail
            go_ret
            exact ⟨by rw [decide_eq_false HX.out]; rfl, hs.drewN _⟩
          · go_wp2_with fail
            go_quiet (fail)
            go_wp2_with fail
            go_ret
            exact ⟨by rw [decide_eq_false HX.out]; rfl, hs.drewN _⟩
      · go_wp2_with fail
        go_ret
        have heq : l = l' := by have h1 := Ht.out; rw [List.take_of_length_le (by omega), List.take_of_length_le (by have := He.out; omega)] at h1; exact h1
        exact ⟨by rw [decide_eq_true heq]; rfl, hs⟩
  · have hb : ((l.length : Int) != (l'.length : Int)) = true := by simp; omega
    have hne : l ≠ l' := by rintro rfl; exact he rfl
    have He := hid he
    have Hne := hid hne
    clear he hne
    go_enter Try.func53, Try.ntmps53
    go_wp2_with fail
    go_ret
    exact ⟨by rw [decide_eq_false Hne.out]; rfl, St.refl w⟩
end Go.Proofs.Ytlfdnlomlbbicaa
