/- marlaw2.WireSorts. -/
import Derived.Test.YtdalcdgkigkbbaaSortD
import Derived.Test.YtdalcdgkigkbbaaSortG
namespace Go.Proofs.Ytdalcdgkigkbbaa
open Go.RowKit Go.Mx

set_option maxRecDepth 100000 in
set_option maxHeartbeats 4000000 in
theorem wireSorts_any (w : World) (va vb : Value) (a b : List ByteArray) (HA : Sl w 1 va a.length (ss a)) (HB : Sl w 1 vb b.length (ss b)) (s : ByteArray) :
    Calls Try.prog 10 #[va, vb, .string s] w fun e w' => e = .returned (.bool true) ∧ Below w.heap.size w w' := by
  go_enter Try.func10, Try.ntmps10
  go_wp2_with fail
  refine (first_any _).mono ?_
  rintro e w1 ⟨rfl, hs1⟩
  go_wp2_with (first
    | ((with_reducible show wpList _ _ _ _ _ _); refine wpl_want rfl ?_)
    | (go_at_call_of 23 va; refine (few_any va a _ (hs1.old HA)).mono ?_; rintro e w2 ⟨⟨fa, rfl, hfa⟩, rfl⟩; cases fa; rotate_left; replace hfa := hfa rfl)
    | (go_at_call_of 23 vb; refine (few_any vb b _ (hs1.old HB)).mono ?_; rintro e w2 ⟨⟨fb, rfl, hfb⟩, rfl⟩; cases fb; rotate_left; replace hfb := hfb rfl)
    | (go_at_call 12; refine (first_any _).mono ?_; rintro e w2 ⟨rfl, hs2⟩; replace hs2 := hs1.call0 hs2))
  · refine (copyTexts_any va a _ (hs1.old HA) (by omega)).mono ?_
    rintro e w2 ⟨vm, rfl, hs2⟩
    have HM := hs2.sl0
    replace HA := hs2.old (hs1.old HA)
    replace HB := hs2.old (hs1.old HB)
    replace hs1 := hs1.call0 hs2.bare
    clear hs2
    go_wp2_with (first
      | ((with_reducible show wpList _ _ _ _ _ _); refine wpl_want rfl ?_)
      | (go_at_call 12; refine (first_any _).mono ?_; rintro e w' ⟨rfl, t⟩; replace HA := (t).old HA; replace HB := (t).old HB; replace HM := (t).old HM; replace hs1 := hs1.call0 (t).bare; clear t)
      | (go_at_call 24; (with_reducible show Calls _ _ #[vm] _ _); refine (sort_any a.length vm a _ (Nat.le_refl _) HM (by omega)).mono ?_; rintro e w' ⟨x1, rfl, t⟩; replace HA := (t).old HA; replace HB := (t).old HB; replace HM := (t).old HM; replace hs1 := hs1.call0 (t).bare; have H1 := (t.cast (sortL_len a).symm rfl).sl0; clear t)
      | (go_at_call 31; (with_reducible show Calls _ _ #[va] _ _); refine (refSort_any va a _ HA (by omega)).mono ?_; rintro e w' ⟨x2, rfl, t⟩; replace HA := (t).old HA; replace HB := (t).old HB; replace HM := (t).old HM; replace hs1 := hs1.call0 (t).bare; replace H1 := (t).old H1; have H2 := (t.cast (sortL_len a).symm rfl).sl0; clear t)
      | (go_at_call 28; (with_reducible show Calls _ _ #[x1, x2] _ _); refine (texts_same x1 x2 _ _ _ H1 H2 rfl).mono ?_; rintro e w' ⟨rfl, t⟩; replace HA := (t).old HA; replace HB := (t).old HB; replace HM := (t).old HM; replace hs1 := hs1.call0 (t).bare; clear t)
      | (go_at_call 25; (with_reducible show Calls _ _ #[vm] _ _); refine (unique_any vm a _ HM (by omega)).mono ?_; rintro e w' ⟨x3, rfl, t⟩; replace HA := (t).old HA; replace HB := (t).old HB; replace HM := (t).old HM; replace hs1 := hs1.call0 (t).bare; have H3 := (t).sl0; clear t)
      | (go_at_call 32; (with_reducible show Calls _ _ #[va] _ _); refine (refUnique_any va a _ HA (by omega)).mono ?_; rintro e w' ⟨x4, rfl, t⟩; replace HA := (t).old HA; replace HB := (t).old HB; replace HM := (t).old HM; replace hs1 := hs1.call0 (t).bare; replace H3 := (t).old H3; have H4 := (t).sl0; clear t)
      | (go_at_call 28; (with_reducible show Calls _ _ #[x3, x4] _ _); refine (texts_same x3 x4 _ _ _ H3 H4 rfl).mono ?_; rintro e w' ⟨rfl, t⟩; replace HA := (t).old HA; replace HB := (t).old HB; replace HM := (t).old HM; replace hs1 := hs1.call0 (t).bare; clear t)
      | (go_at_call 29; (with_reducible show Calls _ _ #[vm, vb] _ _); refine (wmerge_any vm vb a b _ HM HB (by omega)).mono ?_; rintro e w' ⟨x5, rfl, t⟩; replace HA := (t).old HA; replace HB := (t).old HB; replace HM := (t).old HM; replace hs1 := hs1.call0 (t).bare; have H5 := (t).sl0; clear t)
      | (go_at_call 30; refine (copyTexts_any va a _ HA (by omega)).mono ?_; rintro e w' ⟨x6, rfl, t6⟩)
      | (at_builtin; refine wpl_app rfl _ _ 40 rfl Try.elStr t6 rfl (by exact t6.old HB) (ss_one _) (by omega) ?_; intro x7 w' t _; replace HA := (t).old HA; replace HB := (t).old HB; replace HM := (t).old HM; replace hs1 := hs1.call0 (t).bare; replace H5 := (t).old H5; have H7 := (t.cast (@List.length_append _ a b).symm (ss_app a b).symm).sl0; clear t t6)
      | (go_at_call 32; (with_reducible show Calls _ _ #[x7] _ _); refine (refUnique_any x7 (a ++ b) _ H7 (by rw [List.length_append]; omega)).mono ?_; rintro e w' ⟨x8, rfl, t⟩; replace HA := (t).old HA; replace HB := (t).old HB; replace HM := (t).old HM; replace hs1 := hs1.call0 (t).bare; replace H5 := (t).old H5; have H8 := t.sl0; clear t)
      | (go_at_call 28; (with_reducible show Calls _ _ #[x5, x8] _ _); refine (texts_same x5 x8 _ _ _ H5 H8 rfl).mono ?_; rintro e w' ⟨rfl, t⟩; replace HA := (t).old HA; replace HB := (t).old HB; replace HM := (t).old HM; replace hs1 := hs1.call0 (t).bare; clear t)
      | (go_at_call 27; refine (has_any vm a _ HM s).mono ?_; rintro e w' ⟨rfl, rfl⟩)
      | (go_at_call 33; refine (refHas_any va a _ HA s).mono ?_; rintro e w' ⟨rfl, rfl⟩)
      | (go_at_call 28; (with_reducible show Calls _ _ #[vm, va] _ _); refine (texts_same vm va _ _ _ HM HA rfl).mono ?_; rintro e w' ⟨rfl, t⟩; replace HA := (t).old HA; replace HB := (t).old HB; replace HM := (t).old HM; replace hs1 := hs1.call0 (t).bare; clear t))
    go_ret
    exact ⟨rfl, hs1.below⟩
  all_goals
    go_ret
    exact ⟨rfl, hs2.below⟩

theorem wireSortsRow (va : Value) (a : List ByteArray) {w : World} (ha : Sl w 1 va a.length (ss a)) (_la : ∀ s ∈ a, s.size ≤ maxLen) (vb : Value) (b : List ByteArray) (hb : Sl w 1 vb b.length (ss b)) (_lb : ∀ s ∈ b, s.size ≤ maxLen)
    (s : ByteArray) (_hs : s.size ≤ maxLen) (_w : World) :
    Calls Try.prog 10 #[va, vb, .string s] w fun e w' => e = .returned (.bool true) ∧ Below w.heap.size w w' := wireSorts_any w va vb a b ha hb s
end Go.Proofs.Ytdalcdgkigkbbaa
