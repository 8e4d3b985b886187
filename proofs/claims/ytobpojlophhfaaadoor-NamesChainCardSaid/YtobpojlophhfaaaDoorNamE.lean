/- Walks of names.Copy, marref1.Copy. -/
import Derived.Test.YtobpojlophhfaaaDoorNamD
import Derived.Test.YtobpojlophhfaaaDoorRegC
namespace Go.Mx
open Go Go.RowKit
theorem copy_str {s id : ByteArray} {n : Int} {k c : Nat} (hk : k = min 8 id.size) (hc : (c : Int) = min (max n 0) 100) : str (copyL (bL s) (bL id) n) = s ++ ⟨#[126]⟩ ++ id.extract 0 k ++ str (List.replicate c 126) := by
  apply ByteArray.ext
  apply Array.ext'
  unfold copyL
  rw [← hc, Int.toNat_natCast, show (bL id).take 8 = (bL id).take k by
    rw [hk]
    by_cases h : 8 ≤ id.size
    · rw [Nat.min_eq_left h]
    · rw [Nat.min_eq_right (by omega), List.take_of_length_le (by show id.size ≤ 8; omega), List.take_of_length_le (by show id.size ≤ id.size; omega)]]
  rw [← ext_take]
  simp [str, bL]
end Go.Mx
namespace Go.Proofs.YtobpojlophhfaaaDoor
open Go.RowKit Go.Mx

theorem repeat_any (c : Nat) (w : World) (hc : c ≤ 100) :
    Calls Tryd.prog 64 #[.string ⟨#[126]⟩, .int .i64 (c : Int)] w fun e w' => e = .returned (.string (str (List.replicate c 126))) ∧ St w w' [] [] :=
  (Go.Proofs.Tryd.strings_Repeat ⟨#[126]⟩ c w (by omega) (by show 1 * c ≤ _; omega)).mono fun e w' h => ⟨by
    rw [h.1, show (⟨#[126]⟩ : ByteArray).data.toList = [126] from rfl, lib_rep]; rfl, ⟨h.2, by simp, by simp, by simp, by simp⟩⟩

set_option maxRecDepth 100000 in
set_option maxHeartbeats 400000 in
theorem copy_n (s id : ByteArray) (n : Int) (w : World) (hs : s.size ≤ 1000) (hi : id.size ≤ 1000) :
    Calls Tryd.prog 30 #[.string s, .string id, .int .i64 n] w fun e w' => e = .returned (.string (str (copyL (bL s) (bL id) n))) ∧ St w w' [] [] := by
  obtain ⟨k, hk⟩ : ∃ k, k = min 8 id.size := ⟨_, rfl⟩
  obtain ⟨m, hm⟩ : ∃ m, m = max n 0 := ⟨_, rfl⟩
  obtain ⟨c, hc⟩ : ∃ c : Nat, (c : Int) = min m 100 := ⟨(min m 100).toNat, by omega⟩
  have HV := Mx.hid (copy_str (s := s) (id := id) (n := n) hk (by rw [hc, hm]))
  have h1 : min (id.size : Int) 8 = (k : Int) := by omega
  have h2 : max n 0 = m := hm.symm
  have h3 : min m 100 = (c : Int) := hc.symm
  have HR := Mx.hid (fun wx => repeat_any c wx (by omega))
  have hki : k ≤ id.size := by omega
  have hk8 : k ≤ 8 := by omega
  have hc100 : c ≤ 100 := by omega
  have hex : (id.extract 0 k).size = k := by rw [ByteArray.size_extract]; omega
  have hrs : (str (List.replicate c 126)).size = c := by rw [str_size, List.length_replicate]
  clear hk hm hc
  generalize str (List.replicate c 126) = r at *
  generalize str (copyL (bL s) (bL id) n) = V at *
  have hs0 := St.refl w
  go_enter Tryd.func30, Tryd.ntmps30
  go_wp2_with fail
  refine wp_region_C (fun W' => St w W' [] []) (by kernel_rfl) (by kernel_rfl) (by exact hs0.drew) ?_
  repeat ((first | (refine cq_y0 (v := ?_) (by with_reducible rfl) ?_ ?_; rotate_left 1; (focus (intro wq hq; (try dsimp only at hq); skip; go_simp; (first | done | with_reducible rfl | (rw [if_neg (by omega)]; refine ⟨rfl, ?_⟩; with_reducible rfl) | (go_at_call 64; refine (HR.out _).mono ?_; rintro e w9 ⟨rfl, hk9⟩; refine ⟨?_, hq.call0 hk9⟩; with_reducible rfl))))) | (refine cq_no (by go_simp; first | done | (intro h9; cases h9)) ?_) | (refine cq_yes (v := ?_) (by go_simp) ?_ ?_; rotate_left 1; (focus (intro wq hq; (try dsimp only at hq); skip; go_simp; (first | done | with_reducible rfl | (rw [if_neg (by omega)]; refine ⟨rfl, ?_⟩; with_reducible rfl) | (go_at_call 64; refine (HR.out _).mono ?_; rintro e w9 ⟨rfl, hk9⟩; refine ⟨?_, hq.call0 hk9⟩; with_reducible rfl)))))); (try simp only [Act.put, List.setIfInBounds_toArray, List.set_cons_zero, List.set_cons_succ]))
  refine cq_nil ?_
  intro wq hq
  (try dsimp only at hq)
  go_wp2_with fail
  go_ret
  exact ⟨by rw [HV.out]; rfl, hq⟩

set_option maxRecDepth 100000 in
set_option maxHeartbeats 400000 in
theorem refCopy_any (s id : ByteArray) (n : Int) (w : World) (hs : s.size ≤ 1000) (hi : id.size ≤ 1000) :
    Calls Tryd.prog 31 #[.string s, .string id, .int .i64 n] w fun e w' => e = .returned (.string (str (copyL (bL s) (bL id) n))) ∧ w = w' := by
  obtain ⟨k, hk⟩ : ∃ k, k = min 8 id.size := ⟨_, rfl⟩
  obtain ⟨m, hm⟩ : ∃ m, m = min n 100 := ⟨_, rfl⟩
  have HV := Mx.hid (fun c hc => copy_str (s := s) (id := id) (n := n) (c := c) hk hc)
  have HM := Mx.hid (fun (c : Nat) (h1 : ¬ (c : Int) < m) (h2 : (c : Int) ≤ m ∨ c = 0) => (show (c : Int) = min (max n 0) 100 by omega))
  have h1 : min (id.size : Int) 8 = (k : Int) := by omega
  have h2 : min n 100 = m := hm.symm
  have hki : k ≤ id.size := by omega
  have hk8 : k ≤ 8 := by omega
  have hm100 : m ≤ 100 := by omega
  have hex : (id.extract 0 k).size = k := by rw [ByteArray.size_extract]; omega
  have HZ : Hid (∀ i : Nat, (s ++ ⟨#[126]⟩ ++ id.extract 0 k ++ str (List.replicate i 126)).size ≤ 1009 + i) := fun i => by
    rw [ByteArray.size_append, ByteArray.size_append, ByteArray.size_append, hex, str_size, List.length_replicate]
    show s.size + 1 + k + i ≤ _
    omega
  have HS : Hid (∀ i : Nat, s ++ ⟨#[126]⟩ ++ id.extract 0 k ++ str (List.replicate i 126) ++ ⟨#[126]⟩ = s ++ ⟨#[126]⟩ ++ id.extract 0 k ++ str (List.replicate (i + 1) 126)) := fun i => by
    apply ByteArray.ext
    apply Array.ext'
    rw [List.replicate_succ']
    simp [str]
  have H0 : Hid (s ++ ⟨#[126]⟩ ++ id.extract 0 k = s ++ ⟨#[126]⟩ ++ id.extract 0 k ++ str (List.replicate 0 126)) := by
    show _ = _
    apply ByteArray.ext
    apply Array.ext'
    simp [str]
  clear hk hm
  generalize str (copyL (bL s) (bL id) n) = V at *
  go_enter Tryd.func31, Tryd.ntmps31
  go_wp2_with fail
  go_loop [0, 7] (fun x y => ∃ (t : ByteArray) (i : Nat), x = .string t ∧ y = .int .i64 i ∧ ((i : Int) ≤ m ∨ i = 0) ∧ i ≤ 100 ∧ t.size ≤ 2000 ∧ Hid (t = s ++ ⟨#[126]⟩ ++ id.extract 0 k ++ str (List.replicate i 126))) (fun _ y => (m - intOf y).toNat)
  case atStart => exact ⟨_, 0, rfl, rfl, .inr rfl, by omega, by have := HZ.out 0; rw [← H0.out] at this; omega, H0⟩
  case round =>
    obtain ⟨t, i, rfl, rfl, him, h100, htz, HT⟩ := hrel
    by_cases hlt : (i : Int) < m
    · have q : decide ((i : Int) < m) = true := decide_eq_true hlt
      have HT2 := Mx.hid (show t ++ ⟨#[126]⟩ = s ++ ⟨#[126]⟩ ++ id.extract 0 k ++ str (List.replicate (i + 1) 126) by rw [HT.out, HS.out])
      have HZ2 := Mx.hid (show (t ++ ⟨#[126]⟩).size ≤ 2000 by rw [HT2.out]; have := HZ.out (i + 1); omega)
      go_wp2_with fail
      go_round
      case rel => exact ⟨t ++ ⟨#[126]⟩, i + 1, rfl, by go_num, by omega, by omega, HZ2.out, HT2⟩
      case measure => simp [intOf]; omega
    · have q : decide ((i : Int) < m) = false := decide_eq_false hlt
      have HF := Mx.hid (HV.out i (HM.out i (by omega) him))
      have HI := Mx.hid him
      clear hlt him
      go_wp2_with fail
      go_ret
      exact ⟨by rw [HF.out, ← HT.out]; rfl, rfl⟩
end Go.Proofs.YtobpojlophhfaaaDoor
