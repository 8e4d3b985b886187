/- Few; marlaw2.WireMerges, marlaw2.WireOrder. -/
import Derived.Test.YtdalcdgkigkbbaaSortC
namespace Go.Proofs.Ytdalcdgkigkbbaa
open Go.RowKit Go.Mx

def FewPost (l : List ByteArray) (w : World) (e : Ending) (w' : World) : Prop := (∃ b : Bool, e = .returned (.bool b) ∧ (b = true → l.length ≤ 400)) ∧ w = w'

theorem few_any (v : Value) (l : List ByteArray) (w : World) (hv : Sl w 1 v l.length (ss l)) :
    Calls Try.prog 23 #[v] w (FewPost l w) := by
  obtain ⟨ao, cap, blk, off, rfl, h1, h2, _, hc⟩ := hv.txt
  clear hv
  have HC := hid hc
  clear hc
  go_enter Try.func23, Try.ntmps23
  go_wp2_with fail
  go_loop [3, 4] (fun y x => ∃ i n : Nat, i ≤ l.length ∧ i ≤ 400 ∧ x = .int .i64 i ∧ y = .int .i64 n ∧ n ≤ i * 6001) (fun _ x => l.length - (intOf x).toNat)
  case atStart => exact ⟨0, 0, by omega, by omega, rfl, rfl, by omega⟩
  case round =>
    obtain ⟨i, n, hi, h4, rfl, rfl, hn⟩ := hrel
    by_cases hlt : i < l.length ∧ i < 400
    · obtain ⟨hlt, h400⟩ := hlt
      obtain ⟨rfl, c1⟩ := HC.out i hlt
      have hii : (i : Int) < (l.length : Int) := by omega
      have hjj : (i : Int) < 400 := by omega
      generalize hz : l[i].size = z at *
      go_wp2_with fail
      go_round
      case rel => exact ⟨i + 1, n + min z 6001, by omega, by omega, by go_num, by congr 1; omega, by omega⟩
      case measure => simp [intOf]; omega
    · by_cases hlt2 : i < l.length
      · have hii : decide ((i : Int) < (l.length : Int)) = true := decide_eq_true (by omega)
        have hjj : decide ((i : Int) < 400) = false := decide_eq_false (by omega)
        have hkk : decide ((l.length : Int) ≤ 400) = false := decide_eq_false (by omega)
        go_wp2_with fail
        go_ret
        exact ⟨⟨false, rfl, by simp⟩, rfl⟩
      · have hii : decide ((i : Int) < (l.length : Int)) = false := decide_eq_false (by omega)
        have hkk : decide ((l.length : Int) ≤ 400) = true := decide_eq_true (by omega)
        go_wp2_with fail
        go_ret
        exact ⟨⟨_, rfl, fun _ => by omega⟩, rfl⟩

set_option maxRecDepth 100000 in
set_option maxHeartbeats 4000000 in
theorem wireMerges_any (w : World) (va vb vc : Value) (a b c : List ByteArray) (ha : Sl w 1 va a.length (ss a)) (hb : Sl w 1 vb b.length (ss b)) (hc : Sl w 1 vc c.length (ss c)) :
    Calls Try.prog 9 #[va, vb, vc] w fun e w' => e = .returned (.bool true) ∧ Below w.heap.size w w' := by
  go_enter Try.func9, Try.ntmps9
  go_wp2_with fail
  refine (first_any _).mono ?_
  rintro e w1 ⟨rfl, hs1⟩
  go_wp2_with (first | ((with_reducible show wpList _ _ _ _ _ _); refine wpl_want rfl ?_) | (go_at_call_of 23 va; refine (few_any va a _ (hs1.old ha)).mono ?_; rintro e w2 ⟨⟨fa, rfl, hfa⟩, rfl⟩; cases fa; rotate_left; replace hfa := hfa rfl) | (go_at_call_of 23 vb; refine (few_any vb b _ (hs1.old hb)).mono ?_; rintro e w2 ⟨⟨fb, rfl, hfb⟩, rfl⟩; cases fb; rotate_left; replace hfb := hfb rfl) | (go_at_call_of 23 vc; refine (few_any vc c _ (hs1.old hc)).mono ?_; rintro e w2 ⟨⟨fc, rfl, hfc⟩, rfl⟩; cases fc; rotate_left; replace hfc := hfc rfl) | (go_at_call 12; refine (first_any _).mono ?_; rintro e w2 ⟨rfl, hs2⟩; replace hs2 := hs1.call0 hs2) | (go_at_call 29; (with_reducible show Calls _ _ #[va, vb] _ _); refine (wmerge_any va vb a b _ (hs1.old ha) (hs1.old hb) (by omega)).mono ?_; rintro e w2 ⟨vm, rfl, hs2⟩))
  · have HM := hs2.sl0
    have HA := hs2.old (hs1.old ha)
    have HB := hs2.old (hs1.old hb)
    have HC := hs2.old (hs1.old hc)
    replace hs1 := hs1.call0 hs2.bare
    clear hs2 ha hb hc
    have hm : (uniqL (a ++ b)).length ≤ 800 := by have := uniqL_len (a ++ b); rw [List.length_append] at this; omega
    have hbc : (uniqL (b ++ c)).length ≤ 800 := by have := uniqL_len (b ++ c); rw [List.length_append] at this; omega
    have E1 : uniqL (b ++ a) = uniqL (a ++ b) := uniqL_ext (by simp [or_comm])
    have E2 : uniqL (uniqL (a ++ b) ++ a) = uniqL (a ++ b) := uniqL_ext (by
      intro x
      simp only [List.mem_append, mem_uniqL]
      constructor
      · rintro (h | h)
        · exact h
        · exact .inl h
      · exact .inl)
    have E3 : uniqL (uniqL (a ++ b) ++ c) = uniqL (a ++ uniqL (b ++ c)) := uniqL_ext (by
      intro x
      simp only [List.mem_append, mem_uniqL, or_assoc])
    replace E1 := hid E1
    replace E2 := hid E2
    replace E3 := hid E3
    have HM0 := HM
    obtain ⟨ao, cap, blk, off, rfl, g1, g2, _, hcell⟩ := HM0.txt
    clear HM0
    have CE := hid hcell
    clear hcell
    have VM : Hid (∃ vm, vm = Value.slice ao (uniqL (a ++ b)).length cap) := ⟨_, rfl⟩
    go_loop [8] (fun x => ∃ i : Nat, i ≤ (uniqL (a ++ b)).length ∧ x = .int .i64 i) (fun x => (uniqL (a ++ b)).length - (intOf x).toNat)
    case atStart => exact ⟨0, by omega, rfl⟩
    case round =>
      obtain ⟨i, hi, rfl⟩ := hrel
      by_cases hlt : i < (uniqL (a ++ b)).length
      · obtain ⟨rfl, c1⟩ := CE.out i hlt
        have hii : (i : Int) < ((uniqL (a ++ b)).length : Int) := by omega
        have hmem : (uniqL (a ++ b))[i] ∈ a ++ b := (mem_uniqL _ _).1 (List.getElem_mem hlt)
        generalize hz : (uniqL (a ++ b))[i] = z at *
        by_cases hx : z ∈ a
        · have hb := hasL_iff.2 hx
          have H1 := hid (has_any va a w2 HA z)
          rw [hb] at H1
          clear hb hx hmem hz
          go_wp2_with (first | ((with_reducible show wpList _ _ _ _ _ _); refine wpl_want rfl ?_) | (go_at_call 27; refine H1.out.mono ?_; rintro e w' ⟨rfl, rfl⟩))
          go_round
          case rel => exact ⟨i + 1, by omega, by go_num⟩
          case measure => simp [intOf]; omega
        · have hb := hasL_not hx
          have H1 := hid (has_any va a w2 HA z)
          rw [hb] at H1
          have hb' := hasL_iff.2 (show z ∈ b from (List.mem_append.1 hmem).resolve_left hx)
          have H2 := hid (has_any vb b w2 HB z)
          rw [hb'] at H2
          clear hb hb' hx hmem hz
          go_wp2_with (first | ((with_reducible show wpList _ _ _ _ _ _); refine wpl_want rfl ?_) | (go_at_call_of 27 va; refine H1.out.mono ?_; rintro e w' ⟨rfl, rfl⟩) | (go_at_call_of 27 vb; refine H2.out.mono ?_; rintro e w' ⟨rfl, rfl⟩))
          go_round
          case rel => exact ⟨i + 1, by omega, by go_num⟩
          case measure => simp [intOf]; omega
      · clear CE
        have hd : decide ((i : Int) < ((uniqL (a ++ b)).length : Int)) = false := decide_eq_false (by omega)
        obtain ⟨vm, hvm⟩ := VM
        rw [← hvm] at HM ⊢
        clear hvm
        go_wp2_with (first | ((with_reducible show wpList _ _ _ _ _ _); refine wpl_len rfl 40 9 _ rfl Try.underlying40 (by exact HM) ?_) | ((with_reducible show wpList _ _ _ _ _ _); refine wpl_want rfl ?_) | (go_at_call 12; refine (first_any _).mono ?_; rintro e w' ⟨rfl, t⟩; replace HA := (t).old HA; replace HB := (t).old HB; replace HC := (t).old HC; replace HM := (t).old HM; replace hs1 := hs1.call0 (t).bare; clear t) | (go_at_call 29; (with_reducible show Calls _ _ #[vb, va] _ _); refine (wmerge_any vb va b a _ HB HA (by omega)).mono ?_; rintro e w' ⟨x1, rfl, t⟩; replace HA := (t).old HA; replace HB := (t).old HB; replace HC := (t).old HC; replace HM := (t).old HM; replace hs1 := hs1.call0 (t).bare; have H1 := t.sl0; clear t) | (go_at_call 28; (with_reducible show Calls _ _ #[x1, vm] _ _); refine (texts_same x1 vm _ _ _ H1 HM E1).mono ?_; rintro e w' ⟨rfl, t⟩; replace HA := (t).old HA; replace HB := (t).old HB; replace HC := (t).old HC; replace HM := (t).old HM; replace hs1 := hs1.call0 (t).bare; clear t) | (go_at_call 29; (with_reducible show Calls _ _ #[vm, va] _ _); refine (wmerge_any vm va (uniqL (a ++ b)) a _ HM HA (by omega)).mono ?_; rintro e w' ⟨x2, rfl, t⟩; replace HA := (t).old HA; replace HB := (t).old HB; replace HC := (t).old HC; replace HM := (t).old HM; replace hs1 := hs1.call0 (t).bare; have H2 := t.sl0; clear t) | (go_at_call 28; (with_reducible show Calls _ _ #[x2, vm] _ _); refine (texts_same x2 vm _ _ _ H2 HM E2).mono ?_; rintro e w' ⟨rfl, t⟩; replace HA := (t).old HA; replace HB := (t).old HB; replace HC := (t).old HC; replace HM := (t).old HM; replace hs1 := hs1.call0 (t).bare; clear t) | (go_at_call 29; (with_reducible show Calls _ _ #[vm, vc] _ _); refine (wmerge_any vm vc (uniqL (a ++ b)) c _ HM HC (by omega)).mono ?_; rintro e w' ⟨x3, rfl, t⟩; replace HA := (t).old HA; replace HB := (t).old HB; replace HC := (t).old HC; replace HM := (t).old HM; replace hs1 := hs1.call0 (t).bare; have H3 := t.sl0; clear t) | (go_at_call 29; (with_reducible show Calls _ _ #[vb, vc] _ _); refine (wmerge_any vb vc b c _ HB HC (by omega)).mono ?_; rintro e w' ⟨x4, rfl, t⟩; replace HA := (t).old HA; replace HB := (t).old HB; replace HC := (t).old HC; replace HM := (t).old HM; replace hs1 := hs1.call0 (t).bare; replace H3 := (t).old H3; have H4 := t.sl0; clear t) | (go_at_call 29; (with_reducible show Calls _ _ #[va, x4] _ _); refine (wmerge_any va x4 a (uniqL (b ++ c)) _ HA H4 (by omega)).mono ?_; rintro e w' ⟨x5, rfl, t⟩; replace HA := (t).old HA; replace HB := (t).old HB; replace HC := (t).old HC; replace HM := (t).old HM; replace hs1 := hs1.call0 (t).bare; replace H3 := (t).old H3; have H5 := t.sl0; clear t) | (go_at_call 28; (with_reducible show Calls _ _ #[x3, x5] _ _); refine (texts_same x3 x5 _ _ _ H3 H5 E3).mono ?_; rintro e w' ⟨rfl, t⟩; replace HA := (t).old HA; replace HB := (t).old HB; replace HC := (t).old HC; replace HM := (t).old HM; replace hs1 := hs1.call0 (t).bare; clear t))
        go_ret
        exact ⟨rfl, hs1.below⟩
  all_goals
    go_ret
    exact ⟨rfl, hs2.below⟩

theorem wireMergesRow (va : Value) (a : List ByteArray) {w : World} (ha : Sl w 1 va a.length (ss a)) (_la : ∀ s ∈ a, s.size ≤ maxLen) (vb : Value) (b : List ByteArray) (hb : Sl w 1 vb b.length (ss b)) (_lb : ∀ s ∈ b, s.size ≤ maxLen)
    (vc : Value) (c : List ByteArray) (hc : Sl w 1 vc c.length (ss c)) (_lc : ∀ s ∈ c, s.size ≤ maxLen) (_w : World) :
    Calls Try.prog 9 #[va, vb, vc] w fun e w' => e = .returned (.bool true) ∧ Below w.heap.size w w' := wireMerges_any w va vb vc a b c ha hb hc
end Go.Proofs.Ytdalcdgkigkbbaa
