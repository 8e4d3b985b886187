/- Walks of the laws NamesPaths, NamesUnder, NamesIgnored: they return true and leave what was there as it was. -/
import Derived.Test.YtobpojlophhfaaaDoorNamF
namespace Go.Proofs.YtobpojlophhfaaaDoor
open Go.RowKit Go.Mx

set_option maxRecDepth 200000 in
set_option maxHeartbeats 2000000 in
theorem namesPathsRow {w : World} (s : ByteArray) (hs : s.size ≤ maxLen) (v : Value) (l : List ByteArray) (hv : Sl w 1 v l.length (ss l)) (_hl : ∀ x ∈ l, x.size ≤ maxLen) (_w : World) :
    Calls Tryd.prog 8 #[.string s, v] w fun e w' => e = .returned (.bool true) ∧ Below w.heap.size w w' := by
  have HV := Mx.hid hv
  obtain ⟨ao, cap, rfl, h1, h2, _⟩ := hv.form
  have HNM := Mx.hid (fun wx => name_any s wx hs)
  have HRN := Mx.hid (fun wx => refName_any s wx hs)
  have HPA := Mx.hid (fun wx => path_any s wx hs)
  have HRP := Mx.hid (fun wx => refPath_any s wx hs)
  have HSP := Mx.hid (fun wx => split_n s wx hs)
  have HRS := Mx.hid (fun wx => refSplit_n s wx hs)
  generalize nameB (bL s) = r1 at *
  generalize pathB (bL s) = r2 at *
  generalize namesL (bL s) = L at *
  clear hv _hl hs
  unfold maxLen at h2
  go_enter Tryd.func8, Tryd.ntmps8
  go_wp2_with fail
  refine (first_any _).mono ?_
  rintro e w1 ⟨rfl, hk⟩
  by_cases hb : 1000 < s.size
  · have q : decide ((1000 : Int) < (s.size : Int)) = true := decide_eq_true (by omega)
    clear hb
    go_wp2_with (first | ((with_reducible show wpList _ _ _ _ _ _); refine wpl_want rfl ?_) | (go_at_call 19; refine (first_any _).mono ?_; rintro e w9 ⟨rfl, h9⟩; replace hk := hk.call0 h9))
    go_ret
    exact ⟨rfl, hk.below⟩
  have q : decide ((1000 : Int) < (s.size : Int)) = false := decide_eq_false (by omega)
  clear hb
  go_wp2_with (first | ((with_reducible show wpList _ _ _ _ _ _); refine wpl_want rfl ?_))
  refine (few_any _ l _ (hk.old HV.out)).mono ?_
  rintro e w2 ⟨⟨b, rfl, hfew⟩, rfl⟩
  cases b with
  | false =>
    clear hfew
    go_wp2_with (first | ((with_reducible show wpList _ _ _ _ _ _); refine wpl_want rfl ?_) | (go_at_call 19; refine (first_any _).mono ?_; rintro e w9 ⟨rfl, h9⟩; replace hk := hk.call0 h9))
    go_ret
    exact ⟨rfl, hk.below⟩
  | true =>
  obtain ⟨hl100, hl5⟩ := hfew rfl
  clear hfew
  have HCT := Mx.hid (fun wx (h : Sl wx 1 (.slice ao l.length cap) l.length (ss l)) => copyTexts_any _ l wx h (by omega))
  have HJ := Mx.hid (fun v wx (h : Sl wx 1 v l.length (ss l)) => join_n v l wx h (fun x hx => by have := hl5 x hx; unfold maxLen; omega))
  have HRJ := Mx.hid (fun wx (h : Sl wx 1 (.slice ao l.length cap) l.length (ss l)) => refJoin_any _ l wx h (fun x hx => by have := hl5 x hx; omega))
  generalize joinN (l.map bL) = J at *
  obtain ⟨j1, j2⟩ := J
  simp only [] at *
  clear hl5
  go_wp2_with (first | ((with_reducible show wpList _ _ _ _ _ _); refine wpl_want rfl ?_) | (go_at_call 35; refine (HCT.out _ (hk.old HV.out)).mono ?_; rintro e w3 ⟨v3, rfl, h3⟩; obtain ⟨ia, ic, rfl, _⟩ := id h3.sl0; replace hk := (hk.call1 h3).freeze; simp only [] at hk) | (go_at_call 37; refine (HJ.out _ _ hk.q0).mono ?_; rintro e w4 ⟨rfl, h4⟩; replace hk := hk.call0 h4) | (go_at_call 38; refine (HRJ.out _ (hk.old HV.out)).mono ?_; rintro e w5 ⟨rfl, h5⟩; replace hk := hk.call0 h5) | (go_at_call 19; refine (first_any _).mono ?_; rintro e w9 ⟨rfl, h9⟩; replace hk := hk.call0 h9) | (go_at_call 39; refine (HNM.out _).mono ?_; rintro e w9 ⟨rfl, rfl⟩) | (go_at_call 40; refine (HRN.out _).mono ?_; rintro e w9 ⟨rfl, rfl⟩) | (go_at_call 33; refine (HPA.out _).mono ?_; rintro e w9 ⟨rfl, h9⟩; replace hk := hk.call0 h9) | (go_at_call 41; refine (HRP.out _).mono ?_; rintro e w9 ⟨rfl, h9⟩; replace hk := hk.call0 h9) | (go_at_call 34; refine (HSP.out _).mono ?_; rintro e w9 ⟨v6, rfl, h9⟩; replace hk := (hk.call1 h9).freeze; simp only [] at hk) | (go_at_call 42; refine (HRS.out _).mono ?_; rintro e w9 ⟨v7, rfl, h9⟩; replace hk := (hk.call1 h9).freeze; simp only [] at hk) | (go_at_call 27; (with_reducible show Calls _ _ #[v6, v7] _ _); refine (texts_same v6 v7 (tx L) (tx L) _ (by rw [tx_len]; exact hk.q1) (by rw [tx_len]; exact hk.q0) rfl).mono ?_; rintro e w8 ⟨rfl, h8⟩; replace hk := hk.call0 h8) | (go_at_call 27; refine (texts_same _ _ l l _ hk.q2 (hk.old HV.out) rfl).mono ?_; rintro e w8 ⟨rfl, h8⟩; replace hk := hk.call0 h8))
  go_ret
  exact ⟨by simp, hk.below⟩

set_option maxRecDepth 200000 in
set_option maxHeartbeats 2000000 in
theorem namesUnderRow {w : World} (a : ByteArray) (ha : a.size ≤ maxLen) (b : ByteArray) (hb : b.size ≤ maxLen) (id : ByteArray) (_hi : id.size ≤ maxLen) (n : Int) (_hn : Lit.wf (.int .i64 n)) (_w : World) :
    Calls Tryd.prog 5 #[.string a, .string b, .string id, .int .i64 n] w fun e w' => e = .returned (.bool true) ∧ Below w.heap.size w w' := by
  have HU := Mx.hid (fun wx => under_any a b wx ha hb)
  have HRU := Mx.hid (fun wx => refUnder_any a b wx ha hb)
  have HP := Mx.hid (fun wx => parents_n b wx hb)
  have HRP := Mx.hid (fun wx => refParents_any b wx hb)
  have HC := Mx.hid (fun wx (h1 : a.size ≤ 1000) (h2 : id.size ≤ 1000) => copy_n a id n wx h1 h2)
  have HRC := Mx.hid (fun wx (h1 : a.size ≤ 1000) (h2 : id.size ≤ 1000) => refCopy_any a id n wx h1 h2)
  generalize underB (bL a) (bL b) = r1 at *
  generalize parsL (bL b) = L at *
  generalize str (copyL (bL a) (bL id) n) = r2 at *
  clear _hn ha hb _hi
  go_enter Tryd.func5, Tryd.ntmps5
  go_wp2_with fail
  refine (first_any _).mono ?_
  rintro e w1 ⟨rfl, hk⟩
  by_cases h1 : 1000 < a.size
  · have q : decide ((1000 : Int) < (a.size : Int)) = true := decide_eq_true (by omega)
    clear h1
    go_wp2_with (first | ((with_reducible show wpList _ _ _ _ _ _); refine wpl_want rfl ?_) | (go_at_call 19; refine (first_any _).mono ?_; rintro e w9 ⟨rfl, h9⟩; replace hk := hk.call0 h9))
    go_ret
    exact ⟨rfl, hk.below⟩
  have q : decide ((1000 : Int) < (a.size : Int)) = false := decide_eq_false (by omega)
  by_cases h2 : 1000 < b.size
  · have q2 : decide ((1000 : Int) < (b.size : Int)) = true := decide_eq_true (by omega)
    clear h1 h2
    go_wp2_with (first | ((with_reducible show wpList _ _ _ _ _ _); refine wpl_want rfl ?_) | (go_at_call 19; refine (first_any _).mono ?_; rintro e w9 ⟨rfl, h9⟩; replace hk := hk.call0 h9))
    go_ret
    exact ⟨rfl, hk.below⟩
  have q2 : decide ((1000 : Int) < (b.size : Int)) = false := decide_eq_false (by omega)
  by_cases h3 : 1000 < id.size
  · have q3 : decide ((1000 : Int) < (id.size : Int)) = true := decide_eq_true (by omega)
    clear h1 h2 h3
    go_wp2_with (first | ((with_reducible show wpList _ _ _ _ _ _); refine wpl_want rfl ?_) | (go_at_call 19; refine (first_any _).mono ?_; rintro e w9 ⟨rfl, h9⟩; replace hk := hk.call0 h9))
    go_ret
    exact ⟨rfl, hk.below⟩
  have q3 : decide ((1000 : Int) < (id.size : Int)) = false := decide_eq_false (by omega)
  replace HC := Mx.hid (fun wx => HC.out wx (by omega) (by omega))
  replace HRC := Mx.hid (fun wx => HRC.out wx (by omega) (by omega))
  clear h1 h2 h3
  go_wp2_with (first | ((with_reducible show wpList _ _ _ _ _ _); refine wpl_want rfl ?_) | (go_at_call 19; refine (first_any _).mono ?_; rintro e w9 ⟨rfl, h9⟩; replace hk := hk.call0 h9) | (go_at_call 25; refine (HU.out _).mono ?_; rintro e w9 ⟨rfl, h9⟩; replace hk := hk.call0 h9) | (go_at_call 26; refine (HRU.out _).mono ?_; rintro e w9 ⟨rfl, h9⟩; replace hk := hk.call0 h9) | (go_at_call 28; refine (HP.out _).mono ?_; rintro e w9 ⟨v6, rfl, h9⟩; replace hk := (hk.call1 h9).freeze; simp only [] at hk) | (go_at_call 29; refine (HRP.out _).mono ?_; rintro e w9 ⟨v7, rfl, h9⟩; replace hk := (hk.call1 h9).freeze; simp only [] at hk) | (go_at_call 27; refine (texts_same v6 v7 (tx L) (tx L) _ (by rw [tx_len]; exact hk.q1) (by rw [tx_len]; exact hk.q0) rfl).mono ?_; rintro e w8 ⟨rfl, h8⟩; replace hk := hk.call0 h8) | (go_at_call 30; refine (HC.out _).mono ?_; rintro e w9 ⟨rfl, h9⟩; replace hk := hk.call0 h9) | (go_at_call 31; refine (HRC.out _).mono ?_; rintro e w9 ⟨rfl, rfl⟩))
  go_ret
  exact ⟨by simp, hk.below⟩

set_option maxRecDepth 200000 in
set_option maxHeartbeats 2000000 in
theorem namesIgnoredRow {w : World} (v : Value) (l : List ByteArray) (hv : Sl w 1 v l.length (ss l)) (_hl : ∀ x ∈ l, x.size ≤ maxLen) (s : ByteArray) (hs : s.size ≤ maxLen) (p : ByteArray) (hp : p.size ≤ maxLen) (_w : World) :
    Calls Tryd.prog 4 #[v, .string s, .string p] w fun e w' => e = .returned (.bool true) ∧ Below w.heap.size w w' := by
  have HV := Mx.hid hv
  obtain ⟨ao, cap, rfl, h1, h2, _⟩ := hv.form
  have HP := Mx.hid (fun wx => pattern_n p wx hp)
  have HRP := Mx.hid (fun wx (h : p.size ≤ 1000) => refPatternB_any p wx (by omega))
  have HI := Mx.hid (fun wx h hz => ignored_n (.slice ao l.length cap) l s wx h hz hs)
  have HRI := Mx.hid (fun wx h hz => refIgnored_any (.slice ao l.length cap) l s wx h hz hs)
  generalize patB (bL p) = r1 at *
  generalize ignB (l.map bL) (bL s) = r2 at *
  clear hv _hl hs hp
  unfold maxLen at h2
  go_enter Tryd.func4, Tryd.ntmps4
  go_wp2_with fail
  refine (first_any _).mono ?_
  rintro e w1 ⟨rfl, hk⟩
  go_wp2_with (first | ((with_reducible show wpList _ _ _ _ _ _); refine wpl_want rfl ?_))
  refine (few_any _ l _ (hk.old HV.out)).mono ?_
  rintro e w2 ⟨⟨b, rfl, hfew⟩, rfl⟩
  cases b with
  | false =>
    clear hfew
    go_wp2_with (first | ((with_reducible show wpList _ _ _ _ _ _); refine wpl_want rfl ?_) | (go_at_call 19; refine (first_any _).mono ?_; rintro e w9 ⟨rfl, h9⟩; replace hk := hk.call0 h9))
    go_ret
    exact ⟨rfl, hk.below⟩
  | true =>
  obtain ⟨hl100, hl5⟩ := hfew rfl
  clear hfew
  by_cases h3 : 1000 < s.size
  · have q : decide ((1000 : Int) < (s.size : Int)) = true := decide_eq_true (by omega)
    clear h3
    go_wp2_with (first | ((with_reducible show wpList _ _ _ _ _ _); refine wpl_want rfl ?_) | (go_at_call 19; refine (first_any _).mono ?_; rintro e w9 ⟨rfl, h9⟩; replace hk := hk.call0 h9))
    go_ret
    exact ⟨rfl, hk.below⟩
  have q : decide ((1000 : Int) < (s.size : Int)) = false := decide_eq_false (by omega)
  by_cases h4 : 1000 < p.size
  · have q2 : decide ((1000 : Int) < (p.size : Int)) = true := decide_eq_true (by omega)
    clear h3 h4
    go_wp2_with (first | ((with_reducible show wpList _ _ _ _ _ _); refine wpl_want rfl ?_) | (go_at_call 19; refine (first_any _).mono ?_; rintro e w9 ⟨rfl, h9⟩; replace hk := hk.call0 h9))
    go_ret
    exact ⟨rfl, hk.below⟩
  have q2 : decide ((1000 : Int) < (p.size : Int)) = false := decide_eq_false (by omega)
  replace HRP := Mx.hid (fun wx => HRP.out wx (by omega))
  replace HI := Mx.hid (fun wx h => HI.out wx h (fun x hx => by have := hl5 x hx; unfold maxLen; omega))
  replace HRI := Mx.hid (fun wx h => HRI.out wx h (fun x hx => by have := hl5 x hx; omega))
  clear h3 h4 hl5
  go_wp2_with (first | ((with_reducible show wpList _ _ _ _ _ _); refine wpl_want rfl ?_) | (go_at_call 19; refine (first_any _).mono ?_; rintro e w9 ⟨rfl, h9⟩; replace hk := hk.call0 h9) | (go_at_call 21; refine (HI.out _ (hk.old HV.out)).mono ?_; rintro e w4 ⟨rfl, h4⟩; replace hk := hk.call0 h4) | (go_at_call 22; refine (HRI.out _ (hk.old HV.out)).mono ?_; rintro e w4 ⟨rfl, h4⟩; replace hk := hk.call0 h4) | (go_at_call 23; refine (HP.out _).mono ?_; rintro e w9 ⟨rfl, rfl⟩) | (go_at_call 24; refine (HRP.out _).mono ?_; rintro e w9 ⟨rfl, h9⟩; replace hk := hk.call0 h9))
  go_ret
  exact ⟨by simp, hk.below⟩
end Go.Proofs.YtobpojlophhfaaaDoor
