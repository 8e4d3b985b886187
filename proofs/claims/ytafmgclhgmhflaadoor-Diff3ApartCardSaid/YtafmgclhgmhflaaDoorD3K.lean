/- Walks of the kinds. -/
import Derived.Test.YtafmgclhgmhflaaDoorD3W
import Derived.Test.YtafmgclhgmhflaaDoorShelf
namespace Go.Proofs.YtafmgclhgmhflaaDoor
open Go.RowKit Go.Mx

/-- slices.Equal of two lists of texts. -/
theorem sequal_any (v v' : Value) (l l' : List ByteArray) (w : World) (hv : Sl w 1 v l.length (ss l)) (hv' : Sl w 1 v' l'.length (ss l')) :
    Calls Tryd.prog 41 #[v, v'] w fun e w' => e = .returned (.bool (decide (l = l'))) ∧ St w w' [] [] := by
  obtain ⟨ao, cap, blk, off, rfl, h1, h2, _, hc⟩ := hv.txt
  obtain ⟨ao', cap', blk', off', rfl, h1', h2', _, hc'⟩ := hv'.txt
  by_cases hl : l.length = l'.length
  · by_cases h0 : l.length = 0
    · have e1 : l = [] := List.eq_nil_of_length_eq_zero h0
      have e2 : l' = [] := List.eq_nil_of_length_eq_zero (by omega)
      subst e1 e2
      refine (Tryd.slices_Equal_string_empty ao ao' cap 0 cap' w (by omega)).mono ?_
      rintro e w' ⟨rfl, rfl⟩
      exact ⟨by simp, St.refl _⟩
    · obtain ⟨rfl, _⟩ := hc 0 (by omega)
      obtain ⟨rfl, _⟩ := hc' 0 (by omega)
      refine (Tryd.slices_Equal_string blk off l.length cap blk' off' l'.length cap' l l' w (Nat.le_refl _) (Nat.le_refl _) (by omega) (by omega)
        (fun j hj => by rw [(hc j hj).2]; simp [List.getD_eq_getElem?_getD, List.getElem?_eq_getElem hj]) (fun j hj => by rw [(hc' j hj).2]; simp [List.getD_eq_getElem?_getD, List.getElem?_eq_getElem hj])).mono ?_
      rintro e w' ⟨rfl, q, rfl⟩
      exact ⟨by rw [List.take_length, List.take_length], (St.refl _).drewN _⟩
  · refine (Tryd.slices_Equal_string_lens ao ao' l.length cap l'.length cap' w hl).mono ?_
    rintro e w' ⟨rfl, rfl⟩
    exact ⟨by rw [decide_eq_false (fun h => hl (by rw [h]))], St.refl _⟩

theorem kind_any (v1 v2 v3 : Value) (o a b : List ByteArray) (w : World) (ho : Sl w 1 v1 o.length (ss o)) (ha : Sl w 1 v2 a.length (ss a)) (hb : Sl w 1 v3 b.length (ss b)) :
    Calls Tryd.prog 35 #[v1, v2, v3] w fun e w' => e = .returned (.int .i64 (kin o a b : Int)) ∧ St w w' [] [] := by
  go_enter Tryd.func35, Tryd.ntmps35
  go_wp2_with fail
  refine (sequal_any v3 v1 b o _ hb ho).mono ?_
  rintro e w1 ⟨rfl, hs1⟩
  by_cases h1 : b = o
  · have d1 : decide (b = o) = true := decide_eq_true h1
    have HKK : Hid (kin o a b = 2) := by show _ = _; unfold kin; rw [if_pos h1]
    rw [d1]
    clear h1 d1
    go_wp2_with fail
    go_ret
    exact ⟨by rw [HKK.out]; rfl, hs1⟩
  · have d1 : decide (b = o) = false := decide_eq_false h1
    have HK : Hid (kin o a b = if a = o then 3 else if a = b then 4 else 5) := by show _ = _; unfold kin; rw [if_neg h1]
    rw [d1]
    clear h1 d1
    go_wp2_with fail
    refine (sequal_any v2 v1 a o _ (hs1.old ha) (hs1.old ho)).mono ?_
    rintro e w2 ⟨rfl, hs2⟩
    by_cases h1 : a = o
    · have d1 : decide (a = o) = true := decide_eq_true h1
      have HKK : Hid (kin o a b = 3) := by show _ = _; rw [HK.out, if_pos h1]
      rw [d1]
      clear h1 d1 HK
      go_wp2_with fail
      go_ret
      exact ⟨by rw [HKK.out]; rfl, hs1.call0 hs2⟩
    · have d1 : decide (a = o) = false := decide_eq_false h1
      have HK : Hid (kin o a b = if a = b then 4 else 5) := by show _ = _; rw [HK.out, if_neg h1]
      rw [d1]
      clear h1 d1
      go_wp2_with fail
      refine (sequal_any v2 v3 a b _ (hs2.old (hs1.old ha)) (hs2.old (hs1.old hb))).mono ?_
      rintro e w3 ⟨rfl, hs3⟩
      by_cases h1 : a = b
      · have d1 : decide (a = b) = true := decide_eq_true h1
        have HKK : Hid (kin o a b = 4) := by show _ = _; rw [HK.out, if_pos h1]
        rw [d1]
        clear h1 d1 HK
        go_wp2_with fail
        go_ret
        exact ⟨by rw [HKK.out]; rfl, (hs1.call0 hs2).call0 hs3⟩
      · have d1 : decide (a = b) = false := decide_eq_false h1
        have HKK : Hid (kin o a b = 5) := by show _ = _; rw [HK.out, if_neg h1]
        rw [d1]
        clear h1 d1 HK
        go_wp2_with fail
        go_ret
        exact ⟨by rw [HKK.out]; rfl, (hs1.call0 hs2).call0 hs3⟩
theorem refKind_any (v1 v2 v3 : Value) (o a b : List ByteArray) (w : World) (ho : Sl w 1 v1 o.length (ss o)) (ha : Sl w 1 v2 a.length (ss a)) (hb : Sl w 1 v3 b.length (ss b)) :
    Calls Tryd.prog 27 #[v1, v2, v3] w fun e w' => e = .returned (.int .i64 (kin o a b : Int)) ∧ St w w' [] [] := by
  go_enter Tryd.func27, Tryd.ntmps27
  go_wp2_with fail
  refine (texts_any v3 v1 b o _ hb ho).mono ?_
  rintro e w1 ⟨rfl, hs1⟩
  by_cases h1 : b = o
  · have d1 : decide (b = o) = true := decide_eq_true h1
    have HKK : Hid (kin o a b = 2) := by show _ = _; unfold kin; rw [if_pos h1]
    rw [d1]
    clear h1 d1
    go_wp2_with fail
    go_ret
    exact ⟨by rw [HKK.out]; rfl, hs1⟩
  · have d1 : decide (b = o) = false := decide_eq_false h1
    have HK : Hid (kin o a b = if a = o then 3 else if a = b then 4 else 5) := by show _ = _; unfold kin; rw [if_neg h1]
    rw [d1]
    clear h1 d1
    go_wp2_with fail
    refine (texts_any v2 v1 a o _ (hs1.old ha) (hs1.old ho)).mono ?_
    rintro e w2 ⟨rfl, hs2⟩
    by_cases h1 : a = o
    · have d1 : decide (a = o) = true := decide_eq_true h1
      have HKK : Hid (kin o a b = 3) := by show _ = _; rw [HK.out, if_pos h1]
      rw [d1]
      clear h1 d1 HK
      go_wp2_with fail
      go_ret
      exact ⟨by rw [HKK.out]; rfl, hs1.call0 hs2⟩
    · have d1 : decide (a = o) = false := decide_eq_false h1
      have HK : Hid (kin o a b = if a = b then 4 else 5) := by show _ = _; rw [HK.out, if_neg h1]
      rw [d1]
      clear h1 d1
      go_wp2_with fail
      refine (texts_any v2 v3 a b _ (hs2.old (hs1.old ha)) (hs2.old (hs1.old hb))).mono ?_
      rintro e w3 ⟨rfl, hs3⟩
      by_cases h1 : a = b
      · have d1 : decide (a = b) = true := decide_eq_true h1
        have HKK : Hid (kin o a b = 4) := by show _ = _; rw [HK.out, if_pos h1]
        rw [d1]
        clear h1 d1 HK
        go_wp2_with fail
        go_ret
        exact ⟨by rw [HKK.out]; rfl, (hs1.call0 hs2).call0 hs3⟩
      · have d1 : decide (a = b) = false := decide_eq_false h1
        have HKK : Hid (kin o a b = 5) := by show _ = _; rw [HK.out, if_neg h1]
        rw [d1]
        clear h1 d1 HK
        go_wp2_with fail
        go_ret
        exact ⟨by rw [HKK.out]; rfl, (hs1.call0 hs2).call0 hs3⟩
end Go.Proofs.YtafmgclhgmhflaaDoor
