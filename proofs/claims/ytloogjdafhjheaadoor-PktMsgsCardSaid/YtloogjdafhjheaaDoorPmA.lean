/- Small callees of the messages. -/
import Derived.Test.YtloogjdafhjheaaDoorPmP
import Derived.Test.YtloogjdafhjheaaDoorJIPktR
import Derived.Test.YtloogjdafhjheaaDoorCrc
import Derived.Test.YtloogjdafhjheaaDoorJJShaU
import Derived.Test.YtloogjdafhjheaaDoorRVal
import Derived.Test.YtloogjdafhjheaaDoorSplit
import Derived.Test.YtloogjdafhjheaaDoorSplitR
import Derived.Test.YtloogjdafhjheaaDoorNamW
import Derived.Test.YtloogjdafhjheaaDoorBox
import Derived.Test.YtloogjdafhjheaaDoorLibA
import Derived.Test.YtloogjdafhjheaaDoorHeld
import Derived.Test.YtloogjdafhjheaaDoorHeldD
import Derived.Test.YtloogjdafhjheaaDoorRegC
import Derived.Test.YtloogjdafhjheaaDoorShelf
import Derived.WalkSmall
import Derived.Lib.LaidTab
import Derived.Lib.AppendIntMem
import Derived.Lib.SmallJoins
namespace Go.Mx
open Go Go.RowKit
def MV (iv dv : Value) (m : Ms) : Value := .agg #[.int .i64 m.kind, .int .i64 m.seq, .int .i64 m.n, .int .i64 m.m, iv, dv]
/-- A message's parts in memory. -/
structure MB (w : World) (iv dv : Value) (m : Ms) : Prop where
  i : Sl w 1 iv m.ids.length (ss m.ids)
  d : Sl w 1 dv m.data.length (bs m.data)
theorem MB.old {w0 w : World} {R : List Row} {Q : List Rd} {iv dv : Value} {m : Ms} (hs : St w0 w R Q) (h : MB w0 iv dv m) : MB w iv dv m := ⟨hs.old h.i, hs.old h.d⟩
theorem VCof {w0 w : World} {R : List Row} {Q : List Rd} {g : Nat} {n cap : Nat} {e : TypeId} {cs : List Value} {size : Nat} (h : St w0 w R Q) (hr : (⟨.slice (some ⟨g, 0, none⟩) n cap, e, size, n, cs⟩ : Row) ∈ R) : ∀ i u, cs[i]? = some u → w.cell? ⟨g, 0 + i, none⟩ = some u := fun i u hu => by rw [Nat.zero_add]; exact h.rcell hr hu
theorem below_st {w w' : World} (h : Below w.heap.size w w') : St w w' [] [] := (St.refl w).grow h
end Go.Mx
namespace Go.Proofs.YtloogjdafhjheaaDoor
open Go.RowKit Go.Mx
/-- What the library's variables hold. -/
structure LdP (w : World) : Prop where
  tab : Lib.TabIs Tryd.prog w "internal/strconv.uint64pow10" .u64 Lib.pow10Tab
  lt : 0 < w.heap.size
  e1 : ∃ ev, w.cell? ⟨2, 0, none⟩ = some ev ∧ (ev = .nilIface ∨ ∃ te pe, ev = .iface te pe)
  e2 : ∃ ev, w.cell? ⟨3, 0, none⟩ = some ev ∧ (ev = .nilIface ∨ ∃ te pe, ev = .iface te pe)
theorem LdP.keep {w0 w : World} {R : List Row} {Q : List Rd} (h : LdP w0) (hs : St w0 w R Q) : LdP w where
  tab := var?_below hs.below (by kernel_rfl) h.lt h.tab
  lt := Nat.lt_of_lt_of_le h.lt hs.size
  e1 := by obtain ⟨ev, h1, h2⟩ := h.e1; exact ⟨ev, hs.keep h1, h2⟩
  e2 := by obtain ⟨ev, h1, h2⟩ := h.e2; exact ⟨ev, hs.keep h1, h2⟩
theorem itoa_any (x : Int) (w : World) (h : LdP w) (h0 : -9223372036854775808 ≤ x) (h1 : x ≤ 9223372036854775807) :
    Calls Tryd.prog 22 #[.int .i64 x] w fun e w' => e = .returned (.string (str (Lib.itoa x))) ∧ St w w' [] [] :=
  (Tryd.strconv_Itoa x h0 h1 w h.tab).mono fun e w' ⟨he, k, os, hw⟩ => ⟨he, by rw [hw]; exact below_st (Lib.below_grow _ _ (Nat.le_refl _) _ _)⟩
def AtoiPost (s : ByteArray) (w : World) (e : Ending) (w' : World) : Prop :=
  St w w' [] [] ∧ ((∃ v, e = .returned (.tuple #[.int .i64 v, .nilIface]) ∧ Lib.atoiAll s.data.toList = .ok v) ∨ (∃ z t q, e = .returned (.tuple #[.int .i64 z, .iface t q]) ∧ ∀ v, Lib.atoiAll s.data.toList ≠ .ok v))
theorem atoi_any (s : ByteArray) (w : World) (h : LdP w) (hs : s.size ≤ 281474976710656) :
    Calls Tryd.prog 57 #[.string s] w (AtoiPost s w) := by
  rcases ha : Lib.atoiAll s.data.toList with v | _ | _
  · refine (Tryd.strconv_Atoi_ok s (by omega) v ha w).mono ?_
    rintro e w' ⟨rfl, hw⟩
    refine ⟨?_, .inl ⟨v, rfl, ha⟩⟩
    rcases hw with rfl | ⟨t, rfl⟩
    · exact St.refl _
    · exact below_st (Lib.bytesWorld_below _ _ _)
  · obtain ⟨ev, h1, h2⟩ := h.e1
    refine (Tryd.strconv_Atoi_syntax s hs ha ev w h1 h2).mono ?_
    rintro e w' ⟨N, rfl, _, _, hb⟩
    exact ⟨below_st hb, .inr ⟨_, _, _, rfl, fun v hv => by rw [ha] at hv; cases hv⟩⟩
  · obtain ⟨ev, h1, h2⟩ := h.e2
    refine (Tryd.strconv_Atoi_range s hs ha ev w h1 h2).mono ?_
    rintro e w' ⟨N, rfl, _, _, hb⟩
    exact ⟨below_st hb, .inr ⟨_, _, _, rfl, fun v hv => by rw [ha] at hv; cases hv⟩⟩
theorem beq_any (v v' : Value) (l l' : List UInt8) (w : World) (hv : Sl w 1 v l.length (bs l)) (hv' : Sl w 1 v' l'.length (bs l')) :
    Calls Tryd.prog 29 #[v, v'] w fun e w' => e = .returned (.bool (decide (l = l'))) ∧ w = w' := by
  go_enter Tryd.func29, Tryd.ntmps29
  go_wp2_with (first | ((with_reducible show wpList _ _ _ _ _ _); refine wpl_b2s rfl 23 9 5 _ rfl Tryd.underlying23 Tryd.underlying5 Tryd.underlying9 (by exact hv) ?_) | ((with_reducible show wpList _ _ _ _ _ _); refine wpl_b2s rfl 23 9 5 _ rfl Tryd.underlying23 Tryd.underlying5 Tryd.underlying9 (by exact hv') ?_))
  go_ret
  exact ⟨by rw [← str_beq]; rfl, rfl⟩
/-- slices.Equal of two lists of texts. -/
theorem seq_any (v v' : Value) (l l' : List ByteArray) (w : World) (hv : Sl w 1 v l.length (ss l)) (hv' : Sl w 1 v' l'.length (ss l')) :
    Calls Tryd.prog 38 #[v, v'] w fun e w' => e = .returned (.bool (decide (l = l'))) ∧ St w w' [] [] := by
  obtain ⟨ao, cap, blk, off, rfl, h1, h2, _, hc⟩ := hv.txt
  obtain ⟨ao', cap', blk', off', rfl, h1', h2', _, hc'⟩ := hv'.txt
  by_cases hl : l.length = l'.length
  · by_cases h0 : l.length = 0
    · have e1 : l = [] := List.eq_nil_of_length_eq_zero h0
      have e2 : l' = [] := List.eq_nil_of_length_eq_zero (by omega)
      subst e1 e2
      refine (Tryd.slices_Equal_string_empty ao ao' cap 0 cap' w (by omega)).mono ?_
      rintro e w' ⟨rfl, rfl⟩
      exact ⟨by simp, St.refl _⟩
    · obtain ⟨rfl, _⟩ := hc 0 (by omega)
      obtain ⟨rfl, _⟩ := hc' 0 (by omega)
      refine (Tryd.slices_Equal_string blk off l.length cap blk' off' l'.length cap' l l' w (Nat.le_refl _) (Nat.le_refl _) (by omega) (by omega)
        (fun j hj => by rw [(hc j hj).2]; simp [List.getD_eq_getElem?_getD, List.getElem?_eq_getElem hj]) (fun j hj => by rw [(hc' j hj).2]; simp [List.getD_eq_getElem?_getD, List.getElem?_eq_getElem hj])).mono ?_
      rintro e w' ⟨rfl, q, rfl⟩
      exact ⟨by rw [List.take_length, List.take_length], (St.refl _).drewN _⟩
  · refine (Tryd.slices_Equal_string_lens ao ao' l.length cap l'.length cap' w hl).mono ?_
    rintro e w' ⟨rfl, rfl⟩
    exact ⟨by rw [decide_eq_false (fun h => hl (by rw [h]))], St.refl _⟩
theorem withinP_any (x : Int) (w : World) :
    Calls Tryd.prog 34 #[.int .i64 x] w fun e w' => e = .returned (.bool (okN x)) ∧ w = w' := by
  have HO : Hid (okN x = (decide (0 ≤ x) && decide (x ≤ 1073741824))) := by
    show _ = _
    unfold okN
    rw [Bool.eq_iff_iff]
    simp
  go_enter Tryd.func34, Tryd.ntmps34
  cases h1 : decide (0 ≤ x) with
  | false =>
    rw [h1] at HO
    go_wp2_with (first | ((with_reducible show wpList _ _ _ _ _ _); refine wpl_want rfl ?_))
    go_ret
    exact ⟨by rw [HO.out]; rfl, rfl⟩
  | true =>
    cases h2 : decide (x ≤ 1073741824) with
    | false =>
      rw [h1, h2] at HO
      go_wp2_with (first | ((with_reducible show wpList _ _ _ _ _ _); refine wpl_want rfl ?_))
      go_ret
      exact ⟨by rw [HO.out]; rfl, rfl⟩
    | true =>
      rw [h1, h2] at HO
      go_wp2_with (first | ((with_reducible show wpList _ _ _ _ _ _); refine wpl_want rfl ?_))
      go_ret
      exact ⟨by rw [HO.out]; rfl, rfl⟩
theorem four_cells (s : W32) : [Value.int .u8 ((s.toNat : Int) / 16777216), Value.int .u8 ((s.toNat : Int) / 65536 % 256), Value.int .u8 ((s.toNat : Int) / 256 % 256), Value.int .u8 ((s.toNat : Int) % 256)] = bs (fourL s) := by
  have h := s.isLt
  unfold fourL bs
  simp only [List.map_cons, List.map_nil, UInt8.toNat_ofNat']
  rw [show s.toNat / 16777216 % 2 ^ 8 = s.toNat / 16777216 by omega]
  rfl
theorem sum_any (v : Value) (b : List UInt8) (w : World) (hv : Sl w 1 v b.length (bs b)) (hb : b.length ≤ 140737488355328) :
    Calls Tryd.prog 24 #[v] w fun e w' => ∃ v', e = .returned v' ∧ St w w' [⟨v', 5, 1, 4, bs (fourL (crcS b))⟩] [] := by
  have HC := Mx.hid (crc_any v b w hv hb)
  have hlt := (crcS b).isLt
  have HF := Mx.hid (four_cells (crcS b))
  generalize crcS b = s at *
  clear hv
  go_enter Tryd.func24, Tryd.ntmps24
  go_wp2_with fail
  refine HC.out.mono ?_
  intro e w1 he
  obtain ⟨rfl, hs⟩ := he
  go_wp2_with fail
  go_ret
  exact ⟨_, rfl, (hs.made _ 5 1 4 rfl (by simp [maxLen])).cast rfl HF.out⟩
theorem four_any (s : W32) (w : World) :
    Calls Tryd.prog 27 #[.int .u32 (s.toNat : Int)] w fun e w' => ∃ v', e = .returned v' ∧ St w w' [⟨v', 5, 1, 4, bs (fourL s)⟩] [] := by
  have hlt := s.isLt
  have HF := Mx.hid (four_cells s)
  go_enter Tryd.func27, Tryd.ntmps27
  go_wp2_with fail
  go_ret
  exact ⟨_, rfl, ((St.refl w).made _ 5 1 4 rfl (by simp [maxLen])).cast rfl HF.out⟩
theorem joinH_any (v : Value) (a b c d : List UInt8) (w : World) (hv : Sl w 1 v 4 (ss [str a, str b, str c, str d])) (hl : a.length + b.length + c.length + d.length ≤ 1000) :
    Calls Tryd.prog 23 #[v, .string ⟨#[32]⟩] w fun e w' => e = .returned (.string (str (a ++ 32 :: (b ++ 32 :: (c ++ 32 :: d))))) ∧ St w w' [] [] := by
  obtain ⟨ao, cap, blk, off, rfl, h1, h2, _, hc⟩ := hv.txt
  obtain ⟨rfl, c0⟩ := hc 0 (by simp)
  have hj : Lib.join ([str a, str b, str c, str d].map (·.data.toList)) (⟨#[32]⟩ : ByteArray).data.toList = a ++ 32 :: (b ++ 32 :: (c ++ 32 :: d)) := by
    simp only [List.map_cons, List.map_nil, str_data]
    rw [Lib.join_cons]
    simp [Lib.joinTail]
  have := Tryd.strings_Join blk off cap [str a, str b, str c, str d] ⟨#[32]⟩ w (fun j x hx => by
    obtain ⟨hj, rfl⟩ := List.getElem?_eq_some_iff.1 hx
    exact (hc j hj).2) (World.block_lt_of_cell? w _ c0) (by simp) (by simpa using h1) (by rw [hj]; simp; omega)
  refine this.mono fun e w' ⟨h1, h2⟩ => ⟨?_, ⟨h2, by simp, by simp, by simp, by simp⟩⟩
  rw [h1, hj]
  rfl
theorem number_any (v : Value) (l : List (List UInt8)) (i : Nat) (w : World) (hL : LdP w) (hv : Sl w 1 v l.length (ss (tx l))) (hz : ∀ p ∈ l, p.length ≤ 140737488355328) (_hi : i ≤ 10) :
    Calls Tryd.prog 48 #[v, .int .i64 (i : Int)] w fun e w' => e = .returned (.int .i64 (numA l i)) ∧ St w w' [] [] := by
  obtain ⟨ao, cap, rfl, h1, h2, -⟩ := hv.form
  unfold maxLen at h2
  by_cases hlt : i < l.length
  · obtain ⟨blk, off, rfl, c0⟩ := txt_at' hv i hlt
    have HA := Mx.hid (atoi_any (str l[i]) w hL (by have := hz _ (List.getElem_mem hlt); rw [str_size]; omega))
    have hn : numA l i = match Lib.atoiAll l[i] with | .ok v => v | _ => -1 := by
      unfold numA
      rw [List.getElem?_eq_getElem hlt]
      rfl
    have HN := Mx.hid hn
    have HSD := Mx.hid (str_data l[i])
    clear hv hL hz hn
    generalize str l[i] = s at *
    have hii : (i : Int) < (l.length : Int) := by omega
    go_enter Tryd.func48, Tryd.ntmps48
    go_wp2_with fail
    refine HA.out.mono ?_
    rintro e w1 ⟨hs, ⟨x, rfl, hx⟩ | ⟨z, t, q, rfl, hx⟩⟩
    · have HX := Mx.hid (show numA l i = x by rw [HN.out, ← HSD.out, hx])
      clear hx
      go_wp2_with fail
      go_ret
      exact ⟨by rw [HX.out]; rfl, hs⟩
    · have HX := Mx.hid (show numA l i = -1 by
        rw [HN.out, ← HSD.out]
        rcases ha : Lib.atoiAll s.data.toList with v | _ | _
        · exact absurd ha (hx v)
        · rfl
        · rfl)
      clear hx
      go_wp2_with fail
      go_ret
      exact ⟨by rw [HX.out]; rfl, hs⟩
  · have HX := Mx.hid (show numA l i = -1 by unfold numA; rw [List.getElem?_eq_none (by omega)])
    have hii : (l.length : Int) ≤ (i : Int) := by omega
    clear hv hL hz
    go_enter Tryd.func48, Tryd.ntmps48
    go_wp2_with fail
    go_ret
    exact ⟨by rw [HX.out]; rfl, St.refl w⟩
end Go.Proofs.YtloogjdafhjheaaDoor
