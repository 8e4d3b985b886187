/- Walks of marlaw4's first and few. -/
import Derived.Test.YtobpojlophhfaaaDoorNamE
import Derived.Test.YtobpojlophhfaaaDoorHas
namespace Go.Proofs.YtobpojlophhfaaaDoor
open Go.RowKit Go.Mx

def FewPost (l : List ByteArray) (w : World) (e : Ending) (w' : World) : Prop := (∃ b : Bool, e = .returned (.bool b) ∧ (b = true → l.length ≤ 100 ∧ ∀ s ∈ l, s.size ≤ 5000)) ∧ w = w'

theorem few_any (v : Value) (l : List ByteArray) (w : World) (hv : Sl w 1 v l.length (ss l)) :
    Calls Tryd.prog 20 #[v] w (FewPost l w) := by
  obtain ⟨ao, cap, blk, off, rfl, h1, h2, _, hc⟩ := hv.txt
  clear hv
  have HC := Mx.hid hc
  clear hc
  go_enter Tryd.func20, Tryd.ntmps20
  go_wp2_with fail
  go_loop [3, 4] (fun y x => ∃ i n : Nat, i ≤ l.length ∧ i ≤ 100 ∧ x = .int .i64 i ∧ y = .int .i64 n ∧ n ≤ i * 5001 ∧ Hid (∀ j (hj : j < l.length), j < i → min l[j].size 5001 ≤ n)) (fun _ x => l.length - (intOf x).toNat)
  case atStart => exact ⟨0, 0, by omega, by omega, rfl, rfl, by omega, fun j hj h => by omega⟩
  case round =>
    obtain ⟨i, n, hi, h4, rfl, rfl, hn, HN⟩ := hrel
    by_cases hlt : i < l.length ∧ i < 100
    · obtain ⟨hlt, h400⟩ := hlt
      obtain ⟨rfl, c1⟩ := HC.out i hlt
      have hii : (i : Int) < (l.length : Int) := by omega
      have hjj : (i : Int) < 100 := by omega
      have HN2 := Mx.hid (show ∀ j (hj : j < l.length), j < i + 1 → min l[j].size 5001 ≤ n + min l[i].size 5001 from fun j hj h => by
        by_cases e : j = i
        · subst e; omega
        · have := HN.out j hj (by omega); omega)
      generalize hz : l[i].size = z at *
      go_wp2_with fail
      go_round
      case rel => exact ⟨i + 1, n + min z 5001, by omega, by omega, by go_num, by congr 1; omega, by omega, HN2⟩
      case measure => simp [intOf]; omega
    · by_cases hlt2 : i < l.length
      · have hii : decide ((i : Int) < (l.length : Int)) = true := decide_eq_true (by omega)
        have hjj : decide ((i : Int) < 100) = false := decide_eq_false (by omega)
        have hkk : decide ((l.length : Int) ≤ 100) = false := decide_eq_false (by omega)
        go_wp2_with (first | ((with_reducible show wpList _ _ _ _ _ _); refine wpl_want rfl ?_))
        go_ret
        exact ⟨⟨false, rfl, by simp⟩, rfl⟩
      · have hii : decide ((i : Int) < (l.length : Int)) = false := decide_eq_false (by omega)
        have hkk : decide ((l.length : Int) ≤ 100) = true := decide_eq_true (by omega)
        by_cases hb : n ≤ 5000
        · have hnn : decide ((n : Int) ≤ 5000) = true := decide_eq_true (by omega)
          have HF := Mx.hid (show l.length ≤ 100 ∧ ∀ s ∈ l, s.size ≤ 5000 from ⟨by omega, fun s hs => by
            obtain ⟨j, hj, rfl⟩ := List.mem_iff_getElem.1 hs
            have := HN.out j hj (by omega)
            omega⟩)
          go_wp2_with (first | ((with_reducible show wpList _ _ _ _ _ _); refine wpl_want rfl ?_))
          go_ret
          exact ⟨⟨_, rfl, fun _ => HF.out⟩, rfl⟩
        · have hnn : decide ((n : Int) ≤ 5000) = false := decide_eq_false (by omega)
          go_wp2_with (first | ((with_reducible show wpList _ _ _ _ _ _); refine wpl_want rfl ?_))
          go_ret
          exact ⟨⟨false, rfl, by simp⟩, rfl⟩

theorem eq_beq {x y : ByteArray} (h : x = y) : (x.toList == y.toList) = true := by subst h; simp

set_option maxRecDepth 100000 in
set_option maxHeartbeats 1000000 in
theorem first_any (w : World) : Calls Tryd.prog 19 #[] w fun e w' => e = .returned (.bool true) ∧ St w w' [] [] := by
  have HP := Mx.hid (fun wx => path_any ⟨#[97, 47, 46, 46, 47, 98]⟩ wx (by decide))
  rw [show pathB (bL ⟨#[97, 47, 46, 46, 47, 98]⟩) = false by decide +kernel] at HP
  have HR := Mx.hid (fun wx => parents_n ⟨#[97, 47, 98, 47, 99]⟩ wx (by decide))
  rw [show parsL (bL ⟨#[97, 47, 98, 47, 99]⟩) = [[97], [97, 47, 98]] by decide +kernel] at HR
  have HI1 := Mx.hid (fun v wx hv => ignored_n v [⟨#[42, 46, 111]⟩] ⟨#[120, 47, 121, 46, 111]⟩ wx hv (by decide) (by decide))
  rw [show ignB (List.map bL [⟨#[42, 46, 111]⟩]) (bL ⟨#[120, 47, 121, 46, 111]⟩) = true by decide +kernel] at HI1
  have HI2 := Mx.hid (fun v wx hv => ignored_n v [⟨#[116, 109, 112, 47]⟩] ⟨#[116, 109, 112]⟩ wx hv (by decide) (by decide))
  rw [show ignB (List.map bL [⟨#[116, 109, 112, 47]⟩]) (bL ⟨#[116, 109, 112]⟩) = false by decide +kernel] at HI2
  have HC := Mx.hid (fun wx => copy_n ⟨#[97]⟩ ⟨#[48, 49, 50, 51, 52, 53, 54, 55, 56, 57]⟩ 1 wx (by decide) (by decide))
  have hce : str (copyL (bL ⟨#[97]⟩) (bL ⟨#[48, 49, 50, 51, 52, 53, 54, 55, 56, 57]⟩) 1) = ⟨#[97, 126, 48, 49, 50, 51, 52, 53, 54, 55, 126]⟩ := by
    apply ByteArray.ext
    decide +kernel
  rw [hce] at HC
  clear hce
  have HT := Mx.hid (fun v v' wx hv hv' => texts_same v v' [⟨#[97]⟩, ⟨#[97, 47, 98]⟩] [⟨#[97]⟩, ⟨#[97, 47, 98]⟩] wx hv hv' rfl)
  go_enter Tryd.func19, Tryd.ntmps19
  go_wp2_with (first | ((with_reducible show wpList _ _ _ _ _ _); refine wpl_want rfl ?_) | (go_at_call 33; refine (HP.out _).mono ?_; rintro e w1 ⟨rfl, hk⟩) | (go_at_call 28; refine (HR.out _).mono ?_; rintro e w2 ⟨v2, rfl, hk2⟩; replace hk := hk.call0 hk2.bare) | (go_at_call 27; refine (HT.out _ _ _ ((St.alloc (St.refl _) _).old hk2.sl0) ((St.refl _).made _ 9 1 2 (by rfl) (by decide)).sl0).mono ?_; rintro e w3 ⟨rfl, hk3⟩; replace hk := (hk.alloc _).call0 hk3; clear hk2) | (go_at_call 21; (with_reducible show Calls _ _ #[_, Value.string ⟨#[120, 47, 121, 46, 111]⟩] _ _); refine (HI1.out _ _ ((St.refl _).made _ 9 1 1 (by rfl) (by decide)).sl0).mono ?_; rintro e w4 ⟨rfl, hk4⟩; replace hk := (hk.alloc _).call0 hk4) | (go_at_call 21; (with_reducible show Calls _ _ #[_, Value.string ⟨#[116, 109, 112]⟩] _ _); refine (HI2.out _ _ ((St.refl _).made _ 9 1 1 (by rfl) (by decide)).sl0).mono ?_; rintro e w5 ⟨rfl, hk5⟩; replace hk := (hk.alloc _).call0 hk5) | (go_at_call 30; refine (HC.out _).mono ?_; rintro e w6 ⟨rfl, hk6⟩; replace hk := hk.call0 hk6))
  go_ret
  exact ⟨rfl, hk⟩
end Go.Proofs.YtobpojlophhfaaaDoor
