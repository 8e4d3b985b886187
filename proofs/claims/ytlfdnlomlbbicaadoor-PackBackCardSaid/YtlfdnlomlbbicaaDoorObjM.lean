/- Objects in memory; walks of obj.noCommit, mayParents. -/
import Derived.Test.YtlfdnlomlbbicaaDoorObjN
import Derived.Test.YtlfdnlomlbbicaaDoorJ10Hex
namespace Go.Mx
open Go Go.RowKit
def itmRow (x : Itm) : List Value := [.int .i64 x.1, .string x.2.1, .string x.2.2]
def itms (l : List Itm) : List Value := l.flatMap itmRow
/-- An object's value, by its three slices. -/
def OV (dv iv pv : Value) (o : Ob) : Value := .agg #[.int .i64 o.kind, dv, iv, .string o.tree, pv, .int .i64 o.stamp, .int .i64 o.author, .string o.msg]
structure OB (w : World) (dv iv pv : Value) (o : Ob) : Prop where
  d : Sl w 1 dv o.data.length (bs o.data)
  i : Sl w 3 iv o.items.length (itms o.items)
  p : Sl w 1 pv o.parents.length (ss o.parents)
theorem OB.old {w0 w : World} {R : List Row} {Q : List Rd} {dv iv pv : Value} {o : Ob} (h : St w0 w R Q) (ho : OB w0 dv iv pv o) : OB w dv iv pv o := ⟨h.old ho.d, h.old ho.i, h.old ho.p⟩

theorem rises_take : ∀ (l : List ByteArray) (i : Nat), risesB l = true → risesB (l.take i) = true
  | [], i, h => by simp [risesB]
  | [_], i, h => by cases i <;> simp [risesB]
  | a :: b :: r, i, h => by
    rw [risesB, Bool.and_eq_true] at h
    match i with
    | 0 => rfl
    | 1 => rfl
    | i + 2 =>
      have := rises_take (b :: r) (i + 1) h.2
      simp only [List.take_succ_cons] at this ⊢
      rw [risesB, Bool.and_eq_true]
      exact ⟨h.1, this⟩
theorem rises_snoc : ∀ (l : List ByteArray) (i : Nat) (h : i + 1 < l.length), risesB (l.take (i + 2)) = (risesB (l.take (i + 1)) && Op.bytesLess l[i].toList l[i + 1].toList)
  | a :: b :: r, 0, h => by simp [risesB]
  | a :: b :: r, i + 1, h => by
    have := rises_snoc (b :: r) i (by simpa using h)
    simp only [List.take_succ_cons, List.getElem_cons_succ] at this ⊢
    rw [risesB, this, ← Bool.and_assoc, ← risesB]
theorem rises_one (l : List ByteArray) : risesB (l.take (0 + 1)) = true := by cases l <;> rfl
theorem rises_not {l : List ByteArray} {i : Nat} (h : i + 1 < l.length) (hb : Op.bytesLess l[i].toList l[i + 1].toList = false) : risesB l = false := by
  rw [Bool.eq_false_iff]
  intro ha
  have := rises_take l (i + 2) ha
  rw [rises_snoc l i h, hb, Bool.and_false] at this
  cases this
/-- s <= t as the walk spells it, by t < s. -/
theorem less_le {t s : ByteArray} (h : Op.bytesLess t.toList s.toList = true) : Op.bytesLess s.toList t.toList = false ∧ (s.toList == t.toList) = false := by
  refine ⟨bl_asymm _ _ h, ?_⟩
  rw [beq_eq_false_iff_ne]
  intro e
  rw [e, bl_irrefl] at h
  cases h
theorem less_not {t s : ByteArray} (h : Op.bytesLess t.toList s.toList = false) : Op.bytesLess s.toList t.toList = true ∨ (Op.bytesLess s.toList t.toList = false ∧ (s.toList == t.toList) = true) := by
  cases h2 : Op.bytesLess s.toList t.toList with
  | true => exact .inl rfl
  | false => exact .inr ⟨rfl, by rw [beq_iff_eq]; exact bl_total _ _ h2 h⟩
theorem lall_snoc {α : Type} {l : List α} {p : α → Bool} {i : Nat} (h : i < l.length) : (l.take (i + 1)).all p = ((l.take i).all p && p l[i]) := by
  rw [List.take_succ_eq_append_getElem h, List.all_append]
  simp
theorem lall_not {α : Type} {l : List α} {p : α → Bool} {i : Nat} (h : i < l.length) (hp : p l[i] = false) : l.all p = false := by
  rw [Bool.eq_false_iff]
  intro ha
  have := List.all_eq_true.1 ha _ (List.getElem_mem h)
  rw [hp] at this
  cases this
end Go.Mx
namespace Go.Proofs.YtlfdnlomlbbicaaDoor
open Go.RowKit Go.Mx

set_option maxRecDepth 100000 in
set_option maxHeartbeats 2000000 in
theorem mayParents_any (v : Value) (l : List ByteArray) (w : World) (hv : Sl w 1 v l.length (ss l)) (hl : ∀ s ∈ l, s.size ≤ 140737488351232) :
    Calls Tryd.prog 67 #[v] w fun e w' => e = .returned (.bool (parentsB l)) ∧ St w w' [] [] := by
  obtain ⟨ao, cap, blk, off, rfl, h1, h2, _, hc⟩ := hv.txt
  have HC := Mx.hid hc
  have HZ := Mx.hid (fun (i : Nat) (hi : i < l.length) => hl l[i] (List.getElem_mem hi))
  clear hv hc hl
  go_enter Tryd.func67, Tryd.ntmps67
  go_wp2_with fail
  go_loopw [7] (fun y wr => ∃ i : Nat, i ≤ l.length ∧ y = .int .i64 i ∧ Hid ((l.take i).all validB = true ∧ risesB (l.take i) = true) ∧ St w wr [] []) (fun y _ => l.length - (intOf y).toNat)
  case atStart => exact ⟨0, by omega, rfl, Mx.hid ⟨rfl, rfl⟩, St.refl w⟩
  case round =>
    obtain ⟨i, hi, rfl, HA, hs⟩ := hrel
    by_cases hlt : i < l.length
    · obtain ⟨rfl, c0⟩ := HC.out i hlt
      have c1 := hs.keep c0
      have hz := HZ.out i hlt
      have HS := Mx.hid (lall_snoc (p := validB) hlt)
      have HN := Mx.hid (fun h => (show parentsB l = false by unfold parentsB; rw [lall_not (p := validB) hlt h]; rfl))
      have HV := Mx.hid (fun wx => (valid_any l[i] wx (by omega)).mono fun e w' h => (show e = .returned (.bool (validB l[i])) ∧ St wx w' [] [] from h))
      clear c0 hz
      cases hb : validB l[i] with
      | false =>
        have HF := Mx.hid (HN.out hb)
        rw [hb] at HV
        clear hb
        generalize l[i] = s at *
        go_wp2_with (first | ((with_reducible show wpList _ _ _ _ _ _); refine wpl_want rfl ?_) | (go_at_call 66; refine (HV.out _).mono ?_; rintro e w2 ⟨rfl, hk⟩))
        go_ret
        exact ⟨by rw [HF.out]; rfl, (hs.call0 hk).bare⟩
      | true =>
        have HB := Mx.hid hb
        rw [hb] at HV
        clear hb
        by_cases h0 : i = 0
        · subst h0
          rw [Nat.add_zero] at c1
          have HR0 := Mx.hid (rises_one l)
          generalize hls : l[0] = s at *
          clear hls
          go_wp2_with (first | ((with_reducible show wpList _ _ _ _ _ _); refine wpl_want rfl ?_) | (go_at_call 66; refine (HV.out _).mono ?_; rintro e w2 ⟨rfl, hk⟩))
          case roundEnd => exact ⟨⟨1, by omega, by go_num, Mx.hid ⟨by rw [HS.out, HA.out.1, HB.out]; rfl, HR0.out⟩, hs.call0 hk⟩, by simp [intOf]; omega⟩
        · have hpos : 0 < i := by omega
          have hi1 : i - 1 < l.length := by omega
          obtain ⟨_, d0⟩ := HC.out (i - 1) hi1
          have HRS : Hid (∀ h, Op.bytesLess l[i - 1].toList l[i].toList = h → risesB (l.take (i + 1)) = (risesB (l.take i) && h) ∧ (h = false → parentsB l = false)) := Mx.hid (fun h hh => by
            obtain ⟨j, rfl⟩ : ∃ j, i = j + 1 := ⟨i - 1, by omega⟩
            simp only [Nat.add_sub_cancel] at hh
            exact ⟨by rw [rises_snoc l j hlt, hh], fun h0 => by unfold parentsB; rw [rises_not hlt (hh.trans h0)]; simp⟩)
          have HD := Mx.hid (fun (w' : World) (R : List Row) (Q : List Rd) (h : St w w' R Q) => h.keep d0)
          have k1 : IntKind.i64.wrap ((i : Int) - 1) = (i : Int) - 1 := IntWalk.i64_in _ (by omega)
          have k2 : ((i : Int) - 1).toNat = i - 1 := by omega
          have k3 : (0 : Int) ≤ (i : Int) - 1 := by omega
          clear d0 h0
          cases hless : Op.bytesLess l[i - 1].toList l[i].toList with
          | true =>
            have HR := Mx.hid (HRS.out _ hless)
            obtain ⟨q1, q2⟩ := less_le hless
            clear hless
            generalize l[i - 1] = t at *
            generalize l[i] = s at *
            go_wp2_with (first | ((with_reducible show wpList _ _ _ _ _ _); refine wpl_want rfl ?_) | (go_at_call 66; refine (HV.out _).mono ?_; rintro e w2 ⟨rfl, hk⟩; have hs2 := hs.call0 hk; have c2 := HD.out _ _ _ hs2))
            case roundEnd => exact ⟨⟨i + 1, by omega, by go_num, Mx.hid ⟨by rw [HS.out, HA.out.1, HB.out]; rfl, by rw [HR.out.1, HA.out.2]; rfl⟩, hs2⟩, by simp [intOf]; omega⟩
          | false =>
            have HF := Mx.hid ((HRS.out _ hless).2 rfl)
            have hq := less_not hless
            clear hless
            generalize l[i - 1] = t at *
            generalize l[i] = s at *
            rcases hq with q1 | ⟨q1, q2⟩
            · go_wp2_with (first | ((with_reducible show wpList _ _ _ _ _ _); refine wpl_want rfl ?_) | (go_at_call 66; refine (HV.out _).mono ?_; rintro e w2 ⟨rfl, hk⟩; have hs2 := hs.call0 hk; have c2 := HD.out _ _ _ hs2))
              go_ret
              exact ⟨by rw [HF.out]; rfl, hs2⟩
            · go_wp2_with (first | ((with_reducible show wpList _ _ _ _ _ _); refine wpl_want rfl ?_) | (go_at_call 66; refine (HV.out _).mono ?_; rintro e w2 ⟨rfl, hk⟩; have hs2 := hs.call0 hk; have c2 := HD.out _ _ _ hs2))
              go_ret
              exact ⟨by rw [HF.out]; rfl, hs2⟩
    · have HF := Mx.hid (show parentsB l = decide (l.length ≤ 2) by
        have h1 := HA.out.1
        have h2 := HA.out.2
        rw [List.take_of_length_le (by omega)] at h1 h2
        unfold parentsB; rw [h1, h2]; rfl)
      go_wp2_with fail
      go_ret
      exact ⟨by rw [HF.out, le_dec]; rfl, hs⟩
end Go.Proofs.YtlfdnlomlbbicaaDoor
