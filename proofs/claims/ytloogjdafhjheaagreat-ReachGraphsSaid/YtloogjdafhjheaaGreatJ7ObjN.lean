/- Walks of names.Name and obj.mayMsg. The walk of sha.Hex. Walks of sha.Unhex and sha.Valid. -/
import Derived.Test.YtloogjdafhjheaaGreatJ6WireP
import Derived.Test.YtloogjdafhjheaaGreatJ1Lib3
import Derived.Test.YtloogjdafhjheaaGreatJ4HexP
import Derived.Test.YtloogjdafhjheaaGreatShelf
namespace Go.Mx
open Go Go.RowKit
theorem all_snoc {s : ByteArray} {p : UInt8 → Bool} {i : Nat} (h : i < s.size) : ((bL s).take (i + 1)).all p = (((bL s).take i).all p && p s[i]) := by
  have hl : i < (bL s).length := by simpa [bL] using h
  rw [List.take_succ_eq_append_getElem hl, List.all_append]
  simp [bL]
  rfl
theorem all_not {s : ByteArray} {p : UInt8 → Bool} {i : Nat} (h : i < s.size) (hp : p s[i] = false) : (bL s).all p = false := by
  rw [Bool.eq_false_iff]
  intro ha
  have hl : i < (bL s).length := by simpa [bL] using h
  have := List.all_eq_true.1 ha _ (List.getElem_mem hl)
  have h3 : p (s[i]'h) = true := this
  rw [hp] at h3
  cases h3
theorem all_full {s : ByteArray} {p : UInt8 → Bool} {i : Nat} (h : s.size ≤ i) (hp : ((bL s).take i).all p = true) : (bL s).all p = true := by
  rwa [List.take_of_length_le (by simpa [bL] using h)] at hp
theorem le_dec (a b : Nat) : decide (a ≤ b) = decide ((a : Int) ≤ (b : Int)) := by rw [Bool.eq_iff_iff]; simp
theorem name_tail (s : ByteArray) : decide (bL s ≠ [] ∧ (bL s).length ≤ 64 ∧ bL s ≠ [46] ∧ bL s ≠ [46, 46]) = (!s.toList.isEmpty && decide ((s.size : Int) ≤ 64) && !(s.toList == [46]) && !(s.toList == [46, 46])) := by
  have e : s.toList = bL s := ByteArray.toList_eq s
  have e2 : s.size = (bL s).length := by simp [bL]
  rw [e, e2, Bool.eq_iff_iff]
  simp [and_assoc]
  intros
  omega
def nmc (c : UInt8) : Bool := decide (33 ≤ c.toNat ∧ c.toNat ≤ 126 ∧ c.toNat ≠ 47)
def msc (c : UInt8) : Bool := decide (32 ≤ c.toNat ∧ c.toNat ≤ 126)
end Go.Mx
namespace Go.Proofs.YtloogjdafhjheaaGreat
open Go.RowKit Go.Mx

set_option maxHeartbeats 1000000 in
theorem mayMsg_any (s : ByteArray) (w : World) (hs : s.size ≤ maxLen) :
    Calls Tryz.prog 60 #[.string s] w fun e w' => e = .returned (.bool (msgB s)) ∧ w = w' := by
  unfold maxLen at hs
  go_enter Tryz.func60, Tryz.ntmps60
  go_wp2_with fail
  go_loop [6] (fun y => ∃ i : Nat, i ≤ s.size ∧ y = .int .i64 i ∧ Hid (((bL s).take i).all msc = true)) (fun y => s.size - (intOf y).toNat)
  case atStart => exact ⟨0, by omega, rfl, by simp [Hid]⟩
  case round =>
    obtain ⟨i, hi, rfl, HA⟩ := hrel
    by_cases hlt : i < s.size
    · have HS := Mx.hid (all_snoc (p := msc) hlt)
      have HN := Mx.hid (all_not (p := msc) hlt)
      have hc : (s[i].toNat : Int) < 32 ∨ (32 ≤ (s[i].toNat : Int) ∧ 126 < (s[i].toNat : Int)) ∨ (32 ≤ (s[i].toNat : Int) ∧ (s[i].toNat : Int) ≤ 126) := by omega
      rcases hc with h | ⟨h, h2⟩ | ⟨h, h2⟩
      · have q1 : decide ((s[i].toNat : Int) < 32) = true := decide_eq_true h
        have hf : msgB s = false := by
          unfold msgB
          rw [show (bL s).all (fun c => decide (32 ≤ c.toNat ∧ c.toNat ≤ 126)) = false from HN.out (by unfold msc; simp; omega)]
          rfl
        have HF := Mx.hid hf
        clear hf
        go_wp2_with (first | ((with_reducible show wpList _ _ _ _ _ _); refine wpl_want rfl ?_))
        go_ret
        exact ⟨by rw [HF.out]; rfl, rfl⟩
      · have q1 : decide ((s[i].toNat : Int) < 32) = false := decide_eq_false (by omega)
        have q2 : decide (126 < (s[i].toNat : Int)) = true := decide_eq_true h2
        have hf : msgB s = false := by
          unfold msgB
          rw [show (bL s).all (fun c => decide (32 ≤ c.toNat ∧ c.toNat ≤ 126)) = false from HN.out (by unfold msc; simp; omega)]
          rfl
        have HF := Mx.hid hf
        clear hf
        go_wp2_with (first | ((with_reducible show wpList _ _ _ _ _ _); refine wpl_want rfl ?_))
        go_ret
        exact ⟨by rw [HF.out]; rfl, rfl⟩
      · have q1 : decide ((s[i].toNat : Int) < 32) = false := decide_eq_false (by omega)
        have q2 : decide (126 < (s[i].toNat : Int)) = false := decide_eq_false (by omega)
        have hb : msc s[i] = true := by unfold msc; simp; omega
        have HB := Mx.hid hb
        clear hb
        go_wp2_with (first | ((with_reducible show wpList _ _ _ _ _ _); refine wpl_want rfl ?_))
        case roundEnd => exact ⟨⟨i + 1, by omega, by go_num, by show _ = true; rw [HS.out, HA.out, HB.out]; rfl⟩, by simp [intOf]; omega⟩
    · have HF := Mx.hid (show msgB s = decide (s.size ≤ 200) by
        unfold msgB
        rw [show (bL s).all (fun c => decide (32 ≤ c.toNat ∧ c.toNat ≤ 126)) = true from all_full (p := msc) (by omega) HA.out, Bool.true_and])
      go_wp2_with fail
      go_ret
      exact ⟨by rw [HF.out, le_dec]; rfl, rfl⟩
set_option maxHeartbeats 2000000 in
theorem name_any (s : ByteArray) (w : World) (hs : s.size ≤ maxLen) :
    Calls Tryz.prog 77 #[.string s] w fun e w' => e = .returned (.bool (nameB (bL s))) ∧ w = w' := by
  unfold maxLen at hs
  go_enter Tryz.func77, Tryz.ntmps77
  go_wp2_with fail
  go_loop [6] (fun y => ∃ i : Nat, i ≤ s.size ∧ y = .int .i64 i ∧ Hid (((bL s).take i).all nmc = true)) (fun y => s.size - (intOf y).toNat)
  case atStart => exact ⟨0, by omega, rfl, by simp [Hid]⟩
  case round =>
    obtain ⟨i, hi, rfl, HA⟩ := hrel
    by_cases hlt : i < s.size
    · have HS := Mx.hid (all_snoc (p := nmc) hlt)
      have HN := Mx.hid (fun h => (show nameB (bL s) = false by unfold nameB; rw [show (bL s).all (fun c => decide (33 ≤ c.toNat ∧ c.toNat ≤ 126 ∧ c.toNat ≠ 47)) = false from all_not (p := nmc) hlt h]; rfl))
      have hc : (s[i].toNat : Int) < 33 ∨ (33 ≤ (s[i].toNat : Int) ∧ 126 < (s[i].toNat : Int)) ∨ (33 ≤ (s[i].toNat : Int) ∧ (s[i].toNat : Int) ≤ 126 ∧ (s[i].toNat : Int) = 47) ∨ (33 ≤ (s[i].toNat : Int) ∧ (s[i].toNat : Int) ≤ 126 ∧ (s[i].toNat : Int) ≠ 47) := by omega
      rcases hc with h | ⟨h, h2⟩ | ⟨h, h2, h3⟩ | ⟨h, h2, h3⟩
      · have q1 : decide ((s[i].toNat : Int) < 33) = true := decide_eq_true h
        have HF := Mx.hid (HN.out (by unfold nmc; simp; omega))
        go_wp2_with (first | ((with_reducible show wpList _ _ _ _ _ _); refine wpl_want rfl ?_))
        go_ret
        exact ⟨by rw [HF.out]; rfl, rfl⟩
      · have q1 : decide ((s[i].toNat : Int) < 33) = false := decide_eq_false (by omega)
        have q2 : decide (126 < (s[i].toNat : Int)) = true := decide_eq_true h2
        have HF := Mx.hid (HN.out (by unfold nmc; simp; omega))
        go_wp2_with (first | ((with_reducible show wpList _ _ _ _ _ _); refine wpl_want rfl ?_))
        go_ret
        exact ⟨by rw [HF.out]; rfl, rfl⟩
      · have q1 : decide ((s[i].toNat : Int) < 33) = false := decide_eq_false (by omega)
        have q2 : decide (126 < (s[i].toNat : Int)) = false := decide_eq_false (by omega)
        have q3 : ((s[i].toNat : Int) == 47) = true := by rw [beq_iff_eq]; exact h3
        have HF := Mx.hid (HN.out (by unfold nmc; simp; omega))
        clear h3
        go_wp2_with (first | ((with_reducible show wpList _ _ _ _ _ _); refine wpl_want rfl ?_))
        go_ret
        exact ⟨by rw [HF.out]; rfl, rfl⟩
      · have q1 : decide ((s[i].toNat : Int) < 33) = false := decide_eq_false (by omega)
        have q2 : decide (126 < (s[i].toNat : Int)) = false := decide_eq_false (by omega)
        have q3 : ((s[i].toNat : Int) == 47) = false := by rw [beq_eq_false_iff_ne]; exact h3
        have hb : nmc s[i] = true := by unfold nmc; simp; omega
        have HB := Mx.hid hb
        clear hb h3
        go_wp2_with (first | ((with_reducible show wpList _ _ _ _ _ _); refine wpl_want rfl ?_))
        case roundEnd => exact ⟨⟨i + 1, by omega, by go_num, by show _ = true; rw [HS.out, HA.out, HB.out]; rfl⟩, by simp [intOf]; omega⟩
    · have HF := Mx.hid (show nameB (bL s) = decide (bL s ≠ [] ∧ (bL s).length ≤ 64 ∧ bL s ≠ [46] ∧ bL s ≠ [46, 46]) by
        unfold nameB
        rw [show (bL s).all (fun c => decide (33 ≤ c.toNat ∧ c.toNat ≤ 126 ∧ c.toNat ≠ 47)) = true from all_full (p := nmc) (by omega) HA.out, Bool.true_and])
      rw [name_tail] at HF
      cases hE : s.toList.isEmpty with
      | true =>
        go_wp2_with (first | ((with_reducible show wpList _ _ _ _ _ _); refine wpl_want rfl ?_))
        go_ret
        exact ⟨by rw [HF.out, hE]; rfl, rfl⟩
      | false =>
        by_cases h64 : s.size ≤ 64
        · have q1 : decide ((s.size : Int) ≤ 64) = true := decide_eq_true (by omega)
          cases h1 : (s.toList == [46]) with
          | true =>
            have h1' : (s.toList != [46]) = false := by rw [bne, h1]; rfl
            go_wp2_with (first | ((with_reducible show wpList _ _ _ _ _ _); refine wpl_want rfl ?_))
            go_ret
            exact ⟨by rw [HF.out, hE, q1, h1]; rfl, rfl⟩
          | false =>
            have h1' : (s.toList != [46]) = true := by rw [bne, h1]; rfl
            cases h2 : (s.toList == [46, 46]) with
            | true =>
              have h2' : (s.toList != [46, 46]) = false := by rw [bne, h2]; rfl
              go_wp2_with (first | ((with_reducible show wpList _ _ _ _ _ _); refine wpl_want rfl ?_))
              go_ret
              exact ⟨by rw [HF.out, hE, q1, h1, h2]; rfl, rfl⟩
            | false =>
              have h2' : (s.toList != [46, 46]) = true := by rw [bne, h2]; rfl
              go_wp2_with (first | ((with_reducible show wpList _ _ _ _ _ _); refine wpl_want rfl ?_))
              go_ret
              exact ⟨by rw [HF.out, hE, q1, h1, h2]; rfl, rfl⟩
        · have q1 : decide ((s.size : Int) ≤ 64) = false := decide_eq_false (by omega)
          go_wp2_with (first | ((with_reducible show wpList _ _ _ _ _ _); refine wpl_want rfl ?_))
          go_ret
          exact ⟨by rw [HF.out, hE, q1]; rfl, rfl⟩
end Go.Proofs.YtloogjdafhjheaaGreat

namespace Go.Proofs.YtloogjdafhjheaaGreat
open Go.RowKit Go.Mx

theorem Sl.two (w : World) (x y : Value) (e : TypeId) : Sl (w.alloc (.cells #[x, y] e)) 1 (.slice (some ⟨w.heap.size, 0, none⟩) 2 2) 2 [x, y] :=
  ((St.refl w).made #[x, y] e 1 2 rfl (by simp [maxLen])).sl0

set_option maxHeartbeats 1000000 in
theorem shex_any (v : Value) (b : List UInt8) (w : World) (hv : Sl w 1 v b.length (bs b)) (hl : b.length ≤ 1000000000) :
    Calls Tryz.prog 95 #[v] w fun e w' => e = .returned (.string (str (hexL b))) ∧ St w w' [] [] := by
  obtain ⟨ao, cap, blk, off, rfl, h1, h2, _, hc⟩ := hv.byt
  clear hv
  have HC := Mx.hid hc
  clear hc
  go_enter Tryz.func95, Tryz.ntmps95
  go_wp2_with fail
  go_loopw [3, 8] (fun x y wr => ∃ (i : Nat) (acc : List UInt8), i ≤ b.length ∧ Hid (acc.length = 2 * i) ∧ y = .int .i64 i ∧ Hid (acc = hexL (b.take i)) ∧ St w wr [⟨x, 5, 1, acc.length, bs acc⟩] []) (fun _ y _ => b.length - (intOf y).toNat)
  case atStart => exact ⟨0, [], by omega, rfl, rfl, rfl, St.nil _ _ _⟩
  case round =>
    obtain ⟨i, acc, hi, Ha, rfl, He, hs⟩ := hrel
    by_cases hlt : i < b.length
    · obtain ⟨rfl, c0⟩ := HC.out i hlt
      have hal : acc.length ≤ 2000000000 := by have := Ha.out; omega
      have HX := Mx.hid (show hexL (b.take (i + 1)) = acc ++ [dig (b[i].toNat / 16), dig (b[i].toNat % 16)] by
        rw [List.take_succ_eq_append_getElem hlt, hexL_app, ← He.out]; rfl)
      have c1 := hs.keep c0
      have hii : (i : Int) < (b.length : Int) := by omega
      have hx := u8_lt b[i]
      obtain ⟨k1, k2, e1, e2, g1, g2, q1, q2⟩ : ∃ k1 k2 : Nat, (b[i].toNat : Int) / 16 = (k1 : Int) ∧ bits BinOp.and IntKind.u8 (b[i].toNat : Int) 15 = (k2 : Int) ∧ (k1 : Int) < 16 ∧ (k2 : Int) < 16 ∧ Hid (b[i].toNat / 16 = k1) ∧ Hid (b[i].toNat % 16 = k2) :=
        ⟨b[i].toNat / 16, b[i].toNat % 16, by omega, u8_and15 _, by omega, by omega, rfl, rfl⟩
      go_wp2_with fail
      go_region_held3 (fun W => W.cell? ⟨blk, off + i, none⟩ = some (.int .u8 (b[i].toNat : Int))) (first | exact hs1.keep c0 | go_keep) ((refine step_app rfl _ _ 51 rfl Tryz.elU8 (by exact hs.drew.alloc _) rfl (by exact Sl.two _ _ _ _) (by intro u hu; simp at hu; rcases hu with rfl | rfl <;> rfl) (by omega) ?_; intro v1 w1 hs1 _))
      go_wp2_with fail
      case roundEnd => exact ⟨⟨i + 1, acc ++ [dig (b[i].toNat / 16), dig (b[i].toNat % 16)], by omega, Mx.hid (by have := Ha.out; simp; omega), by go_num, HX.out.symm, hs1.cast (by simp) (by rw [bs_app, q1.out, q2.out, dig_at k1 (by omega), dig_at k2 (by omega)]; rfl)⟩, by simp [intOf]; omega⟩
      go_roundw
      case rel => exact ⟨i + 1, acc ++ [dig (b[i].toNat / 16), dig (b[i].toNat % 16)], by omega, Mx.hid (by have := Ha.out; simp; omega), by go_num, HX.out.symm, hs1.cast (by simp) (by rw [bs_app, q1.out, q2.out, dig_at k1 (by omega), dig_at k2 (by omega)]; rfl)⟩
      case measure => simp [intOf]; omega
    · have HE := Mx.hid (show acc = hexL b by rw [He.out, List.take_of_length_le (by omega)])
      go_wp2_with ((with_reducible show wpList _ _ _ _ _ _); refine wpl_b2s rfl 51 9 5 _ rfl Tryz.underlying51 Tryz.underlying5 Tryz.underlying9 (by exact hs.sl0) ?_)
      go_ret
      exact ⟨by rw [HE.out]; rfl, hs.bare⟩
end Go.Proofs.YtloogjdafhjheaaGreat

namespace Go.Mx
open Go Go.RowKit
theorem ib_hex (c : UInt8) : Lib.indexByte digs c = hexI c := by
  have h : ∀ n : Nat, n < 256 → Lib.indexByte digs (UInt8.ofNat n) = hexI (UInt8.ofNat n) := by decide +kernel
  have := h c.toNat c.toNat_lt
  rwa [UInt8.ofNat_toNat] at this
theorem shl_or (a b : Nat) (ha : a < 16) (hb : b < 16) : bits BinOp.or IntKind.i64 ((a : Int) * 16) (b : Int) % 256 = ((16 * a + b : Nat) : Int) := by
  have h : ∀ a : Nat, a < 16 → ∀ b : Nat, b < 16 → bits BinOp.or IntKind.i64 ((a : Int) * 16) (b : Int) % 256 = ((16 * a + b : Nat) : Int) := by decide +kernel
  exact h a ha b hb
end Go.Mx
namespace Go.Proofs.YtloogjdafhjheaaGreat
open Go.RowKit Go.Mx

theorem ib_any (c : UInt8) (w : World) : Calls Tryz.prog 79 #[.string ⟨#[48, 49, 50, 51, 52, 53, 54, 55, 56, 57, 97, 98, 99, 100, 101, 102]⟩, .int .u8 (c.toNat : Int)] w fun e w' => e = .returned (.int .i64 (hexI c)) ∧ w = w' :=
  (Go.Proofs.Tryz.strings_IndexByte _ _ w).mono fun _ _ h => ⟨by
    have e := ib_hex c
    rw [h.1, Int.toNat_natCast]
    rw [← e]
    have : c.toNat.toUInt8 = c := UInt8.ofNat_toNat
    rw [this]; rfl, h.2.symm⟩

set_option maxHeartbeats 1000000 in
theorem sunhex_any (s : ByteArray) (w : World) (hl : s.size ≤ 140737488355328) :
    Calls Tryz.prog 62 #[.string s] w fun e w' => ∃ v, e = .returned (.tuple #[v, .bool (unhexL s.data.toList).isSome]) ∧ St w w' [⟨v, 5, 1, ((unhexL s.data.toList).getD []).length, bs ((unhexL s.data.toList).getD [])⟩] [] := by
  have hsz : s.data.toList.length = s.size := rfl
  have hget : ∀ i (h : i < s.size), s.data.toList[i]? = some s[i] := fun i h => List.getElem?_eq_getElem (by omega)
  generalize hL : s.data.toList = L at *
  have hP : ∀ (o : Option (List UInt8)), unhexL L = o → ∀ v w', St w w' [⟨v, 5, 1, (o.getD []).length, bs (o.getD [])⟩] [] → ∃ v', Ending.returned (.tuple #[v, .bool o.isSome]) = .returned (.tuple #[v', .bool (unhexL L).isSome]) ∧ St w w' [⟨v', 5, 1, ((unhexL L).getD []).length, bs ((unhexL L).getD [])⟩] [] := by
    rintro o rfl v w' h; exact ⟨v, rfl, h⟩
  have HP := Mx.hid hP
  have Hsz := Mx.hid hsz
  have Hget := Mx.hid hget
  clear hP hget hL
  by_cases hodd : s.size % 2 = 1
  · have HN := Mx.hid (unhexL_odd _ L rfl (by omega))
    have hb : (((s.size % 2 : Nat) : Int) != 0) = true := by rw [hodd]; rfl
    have hb' : (((s.size : Int) % 2) != 0) = true := by rw [show (s.size : Int) % 2 = ((s.size % 2 : Nat) : Int) from rfl]; exact hb
    have h2 : (s.size : Int) % 2 = 1 := by omega
    clear hsz
    go_enter Tryz.func62, Tryz.ntmps62
    go_wp2_with fail
    go_ret2
    exact HP.out none HN.out _ _ (St.nil _ _ _)
  · have h2 : (s.size : Int) % 2 = 0 := by omega
    clear hsz
    go_enter Tryz.func62, Tryz.ntmps62
    go_wp2_with fail
    clear h2
    go_loopw [4, 5] (fun x y wr => ∃ (i : Nat) (acc : List UInt8), i ≤ s.size ∧ i % 2 = 0 ∧ 2 * acc.length = i ∧ y = .int .i64 i ∧ Hid (unhexL L = (unhexL (L.drop i)).map (acc ++ ·)) ∧ St w wr [⟨x, 5, 1, acc.length, bs acc⟩] []) (fun _ y _ => s.size - (intOf y).toNat)
    case atStart => exact ⟨0, [], by omega, rfl, rfl, rfl, by simp [Hid], St.nil _ _ _⟩
    case round =>
      obtain ⟨i, acc, hi, hi2, ha, rfl, He, hs⟩ := hrel
      have hsz := Hsz.out
      by_cases hlt : i < s.size
      · have hlt1 : i + 1 < s.size := by omega
        have hst := unhexL_step (l := L) (i := i) (by omega)
        have q1 := Hget.out i hlt
        have q2 := Hget.out (i + 1) hlt1
        rw [List.getElem?_eq_getElem (by omega)] at q1 q2
        rw [Option.some.inj q1, Option.some.inj q2] at hst
        clear q1 q2
        have hii : (i : Int) < (s.size : Int) := by omega
        have hii1 : (i : Int) + 1 < (s.size : Int) := by omega
        have hii2 : ((i : Int) + 1).toNat = i + 1 := by omega
        have wi : IntKind.i64.wrap ((i : Int) + 1) = (i : Int) + 1 := IntWalk.i64_in _ (by omega)
        have hii3 : (0 : Int) ≤ (i : Int) + 1 := by omega
        have l1 := hexI_lo s[i]; have l2 := hexI_lo s[i + 1]; have g1 := hexI_hi s[i]; have g2 := hexI_hi s[i + 1]
        have Hst := Mx.hid hst
        clear hst hsz
        go_wp2_with fail
        go_quiet ((go_at_call 79; exact Calls.quiet_of_same ((ib_any _ _).mono fun _ _ h => ⟨h.1, h.2.symm⟩)))
        replace hs := hs.drewN nq
        generalize s[i] = c1 at *
        generalize s[i + 1] = c2 at *
        clear hii1 hii2 hii3 wi
        generalize hexI c1 = a at *
        generalize hexI c2 = b at *
        have hst := Hst.out
        clear Hst
        by_cases hneg : a < 0 ∨ b < 0
        · rw [if_pos hneg] at hst
          have HE := Mx.hid (show unhexL L = none by rw [He.out, hst]; rfl)
          clear hst
          have hb : decide (a < 0) = true ∨ (decide (a < 0) = false ∧ decide (b < 0) = true) := by
            by_cases h : a < 0
            · exact .inl (decide_eq_true h)
            · exact .inr ⟨decide_eq_false h, decide_eq_true (by omega)⟩
          clear hneg
          rcases hb with hb | ⟨hb, hb'⟩
          all_goals
            go_wp2_with fail
            go_ret2
            exact HP.out none HE.out _ _ (hs.bare.addNil _ _)
        · rw [if_neg hneg] at hst
          have HE := Mx.hid (He.out.trans (by rw [hst]))
          clear hst
          have hb : decide (a < 0) = false := decide_eq_false (by omega)
          have hb' : decide (b < 0) = false := decide_eq_false (by omega)
          obtain ⟨a, rfl⟩ := Int.eq_ofNat_of_zero_le (show 0 ≤ a by omega)
          obtain ⟨b, rfl⟩ := Int.eq_ofNat_of_zero_le (show 0 ≤ b by omega)
          clear hneg
          go_wp2_with (at_builtin; refine wpl_app rfl _ _ 51 rfl Tryz.elU8 (hs.alloc _) rfl (by exact (Sl.one _ _ _)) (by intro u hu; simp at hu; subst hu; rfl) (by omega) ?_; intro v1 w1 hs1 _)
          go_roundw
          case rel => exact ⟨i + 2, acc ++ [UInt8.ofNat (16 * (a : Int) + b).toNat], by omega, by omega, by simp; omega, by go_num, by show _ = _; rw [HE.out, Option.map_map]; congr 1; funext r; simp, hs1.cast (by simp) (by rw [bs_app]; congr 1; show _ = [Value.int .u8 _]; rw [show (16 * (a : Int) + b).toNat = 16 * a + b by omega, u8_nat (by omega)]; exact congrArg (fun z => [Value.int .u8 z]) (shl_or a b (by omega) (by omega)))⟩
          case measure => simp [intOf]; omega
      · have HE := Mx.hid (He.out.trans (by rw [List.drop_of_length_le (by omega)]))
        clear hsz
        go_wp2_with fail
        go_ret2
        exact HP.out (some acc) (by rw [HE.out]; simp [unhexL]) _ _ hs


theorem valid_any (s : ByteArray) (w : World) (hl : s.size ≤ 140737488355328) :
    Calls Tryz.prog 58 #[.string s] w fun e w' => e = .returned (.bool ((unhexL s.data.toList).any fun r => decide (r.length = 32))) ∧ St w w' [] [] := by
  generalize hL : s.data.toList = L at *
  have HS := Mx.hid hL
  clear hL
  go_enter Tryz.func58, Tryz.ntmps58
  go_wp2_with fail
  refine (sunhex_any s w hl).mono ?_
  rintro e w1 ⟨v, rfl, hs⟩
  rw [HS.out] at hs ⊢
  cases hu : unhexL L with
  | none =>
    rw [hu] at hs
    go_wp2_with (first | ((with_reducible show wpList _ _ _ _ _ _); refine wpl_want rfl ?_))
    go_ret
    exact ⟨by rw [hu]; rfl, hs.bare⟩
  | some r =>
    rw [hu] at hs
    have hs : St w w1 [⟨v, 5, 1, r.length, bs r⟩] [] := hs
    obtain ⟨x, y, rfl, _⟩ := hs.sl0
    by_cases h32 : r.length = 32
    · go_wp2_with (first | ((with_reducible show wpList _ _ _ _ _ _); refine wpl_want rfl ?_))
      go_ret
      exact ⟨by rw [hu, show (some r).any (fun r => decide (r.length = 32)) = decide (r.length = 32) from rfl, h32]; rfl, hs.bare⟩
    · have h33 : ¬ ((r.length : Int) = 32) := by omega
      go_wp2_with (first | ((with_reducible show wpList _ _ _ _ _ _); refine wpl_want rfl ?_))
      go_ret
      exact ⟨by rw [hu, show (some r).any (fun r => decide (r.length = 32)) = decide (r.length = 32) from rfl, decide_eq_false h32]; exact congrArg (fun b => Ending.returned (.bool b)) (by simpa using h33), hs.bare⟩
end Go.Proofs.YtloogjdafhjheaaGreat
