/- Walks of lines.Split, Join, Text over the library's contracts. -/
import Derived.Test.YtafmgclhgmhflaaDoorBase
import Derived.Test.YtafmgclhgmhflaaDoorSplitP
import Derived.Test.YtafmgclhgmhflaaDoorShelf
namespace Go.Proofs.YtafmgclhgmhflaaDoor
open Go.RowKit Go.Mx

theorem sub_cut {α : Type} (l : List α) : l.take l.length = l := List.take_length

theorem map_str {l : List ByteArray} {m : List (List UInt8)} (h : l.map (·.data.toList) = m) : l = tx m := by
  subst h
  unfold tx
  rw [List.map_map]
  conv => lhs; rw [← List.map_id l]
  exact List.map_congr_left fun x _ => (str_toList x).symm

theorem splitB_pcs (s : ByteArray) (c : UInt8) (sv : Nat) (hsv : sv ≤ 1) : Lib.splitB ⟨#[c]⟩ sv (Lib.countB s ⟨#[c]⟩) s = tx (pcs c sv s.data.toList) := by
  refine map_str ?_
  rw [Lib.splitB_data, show Lib.countB s ⟨#[c]⟩ = s.data.toList.count c from Lib.count_one c _]
  exact splitK_pcs c sv hsv _

theorem genSplit_any (s : ByteArray) (hs : s.size < 4294967281) (c : UInt8) (sv : Nat) (hsv : sv ≤ 1) (w : World) :
    Calls Tryd.prog 42 #[.string s, .string ⟨#[c]⟩, .int .i64 (sv : Int), .int .i64 (-1)] w fun e w' =>
      e = .returned (.slice (some ⟨w.heap.size, 0, none⟩) (pcs c sv s.data.toList).length (pcs c sv s.data.toList).length) ∧ w' = w.alloc (.cells (ss (tx (pcs c sv s.data.toList))).toArray 9) := by
  have hcnt : Lib.countB s ⟨#[c]⟩ = s.data.toList.count c := Lib.count_one c _
  have hle : s.data.toList.count c ≤ s.size := by rw [Lib.size_eq]; exact List.count_le_length
  have h := Any.strings_genSplit_core Tryd.lays221 (by kernel_rfl) s ⟨#[c]⟩ sv (-1) (Lib.countB s ⟨#[c]⟩ + 1) w hs (Nat.le_refl _) hsv
    (fun x cs _ => by
      have := Any.strings_Index_one { Tryd.lays221 with } x c (w.alloc (.cells cs (Tryd.lays221_ren.t 9)))
      rwa [show Lib.indexByte x.data.toList c = Lib.indexB x ⟨#[c]⟩ from (Lib.index_one _ c).symm] at this)
    (by
      have := Any.strings_Count_one { Tryd.lays221 with } s c w
      rwa [show Lib.countByte s.data.toList c = Lib.countB s ⟨#[c]⟩ from hcnt.symm] at this)
    (by omega) (by omega) (by rw [if_pos (by omega), hcnt]; omega)
  rw [Nat.add_sub_cancel, splitB_pcs s c sv hsv, hcnt, ← pcs_len c sv] at h
  rw [show (tx (pcs c sv s.data.toList)).length = (pcs c sv s.data.toList).length from tx_len _] at h
  have e := Lib.cellsOf_full (tx (pcs c sv s.data.toList))
  rw [tx_len] at e
  rw [e] at h
  exact h

theorem splitAfter_any (s : ByteArray) (hs : s.size < 4294967281) (w : World) :
    Calls Tryd.prog 38 #[.string s, .string ⟨#[10]⟩] w fun e w' =>
      e = .returned (.slice (some ⟨w.heap.size, 0, none⟩) (pcs 10 1 s.data.toList).length (pcs 10 1 s.data.toList).length) ∧ w' = w.alloc (.cells (ss (tx (pcs 10 1 s.data.toList))).toArray 9) := by
  have G := Mx.hid (genSplit_any s hs 10 1 (Nat.le_refl _) w)
  go_enter Tryd.func38, Tryd.ntmps38
  go_wp2_with fail
  refine G.out.mono ?_
  rintro e w' ⟨rfl, rfl⟩
  go_wp2_with fail
  go_ret
  exact ⟨rfl, rfl⟩
/-- What a call leaves that hands back a slice which reads as these texts, and leaves nothing else. -/
def RdPost (size n : Nat) (xs : List Value) (w : World) (e : Ending) (w' : World) : Prop := ∃ v, e = .returned v ∧ St w w' [] [] ∧ Sl w' size v n xs

theorem split_any (v : Value) (l : List UInt8) (w : World) (hv : Sl w 1 v l.length (bs l)) (hl : l.length < 4294967281) :
    Calls Tryd.prog 28 #[v] w (RdPost 1 (lns l).length (ss (tx (lns l))) w) := by
  have hz : (str l).size < 4294967281 := by rw [str_size]; exact hl
  have G := Mx.hid (splitAfter_any (str l) hz)
  have hp : pcs 10 1 (str l).data.toList = lns l ++ if endNl l then [[]] else [] := by rw [str_data]; exact pcs_lns l
  rw [hp] at G
  clear hp hz
  have hn := lns_len l
  have hne := pcs_ne 10 1 l
  rw [pcs_lns] at hne
  have hm : ∀ n : Nat, n ≤ 4294967282 → n ≤ maxLen := fun n h => by unfold maxLen; omega
  go_enter Tryd.func28, Tryd.ntmps28
  go_wp2_with ((with_reducible show wpList _ _ _ _ _ _); refine wpl_b2s rfl 36 9 5 _ rfl Tryd.underlying36 Tryd.underlying5 Tryd.underlying9 (by exact hv) ?_)
  refine (G.out w).mono ?_
  rintro e w' ⟨rfl, rfl⟩
  cases he : endNl l with
  | true =>
    rw [he] at hne G
    simp only [if_true] at hne ⊢
    have hs := (St.refl w).made (ss (tx (lns l ++ [[]]))).toArray 9 1 ((lns l).length + 1) (by simp [ss_len, tx_len]) (hm _ (by omega))
    have c := hs.cell (j := (lns l).length) (u := .string ⟨#[]⟩) (by rw [tx_app, ss_app]; simp [ss, tx, str])
    rw [show (lns l ++ ([[]] : List (List UInt8))).length = (lns l).length + 1 from List.length_append]
    have hsl : Sl (w.alloc (.cells (ss (tx (lns l ++ [[]]))).toArray 9)) 1 (.slice (some ⟨w.heap.size, 0, none⟩) (lns l).length ((lns l).length + 1)) (lns l).length (ss (tx (lns l))) := by
      have h2 := hs.sl0.cut (l := 0) (r := (lns l).length) (Nat.zero_le _) (Nat.le_succ _)
      rw [if_neg (by omega)] at h2
      simpa [tx_app, ss_app, ss_len, tx_len, Addr.add] using h2
    have hB := Mx.hid hs.bare
    have hS := Mx.hid hsl
    clear hs hsl hne hm G
    generalize w.alloc (.cells (ss (tx (lns l ++ [[]]))).toArray 9) = W at *
    generalize lns l = L at *
    have hL : L.length ≤ 4294967281 := by omega
    have hi : ((L.length + 1 : Nat) : Int) - 1 = (L.length : Int) := by omega
    go_wp2_with fail
    go_ret
    exact ⟨_, rfl, hB.out, hS.out⟩
  | false =>
    rw [he] at hne G
    simp only [List.append_nil, Bool.false_eq_true, if_false] at hne ⊢
    have hpos : 0 < (lns l).length := List.length_pos_iff.2 hne
    have hform := (lns_form l ((lns l).length - 1) (by omega)).1
    have hs := (St.refl w).made (ss (tx (lns l))).toArray 9 1 (lns l).length (by simp [ss_len, tx_len]) (hm _ (by omega))
    obtain ⟨m, hmm⟩ : ∃ m, (lns l).length = m + 1 := ⟨(lns l).length - 1, by omega⟩
    have c := hs.cell (j := m) (u := .string (str ((lns l)[m]'(by omega)))) (by simp [ss, tx, show m < (lns l).length by omega])
    have hne2 : (lns l)[m]'(by omega) ≠ [] := by
      have := hform
      simp only [show (lns l).length - 1 = m by omega] at this
      exact this
    have hemp : (str ((lns l)[m]'(by omega))).toList.isEmpty = false := by
      rw [str_toL]
      cases h : (lns l)[m]'(by omega) with
      | nil => exact absurd h hne2
      | cons x y => rfl
    have hB := Mx.hid hs.bare
    have hS := Mx.hid hs.sl0
    clear hs hne G hform hne2 hpos
    generalize w.alloc (.cells (ss (tx (lns l))).toArray 9) = W at *
    generalize str ((lns l)[m]'(by omega)) = last at *
    generalize tx (lns l) = T at *
    have HM := Mx.hid hmm
    rw [hmm] at hS ⊢
    have hL : m ≤ 4294967281 := by omega
    clear hm hn hmm
    have hi : ((m + 1 : Nat) : Int) - 1 = (m : Int) := by omega
    go_wp2_with fail
    go_ret
    exact ⟨_, rfl, hB.out, by rw [HM.out]; exact hS.out⟩
theorem join_any (v : Value) (l : List ByteArray) (w : World) (hv : Sl w 1 v l.length (ss l)) (hl : l.length ≤ 8796093022208) (hj : (joinL l).length ≤ 140737488355328) :
    Calls Tryd.prog 29 #[v] w fun e w' => ∃ v', e = .returned v' ∧ St w w' [⟨v', 5, 1, (joinL l).length, bs (joinL l)⟩] [] := by
  obtain ⟨ao, cap, blk, off, rfl, h1, h2, _, hc⟩ := hv.txt
  have hG : Calls Tryd.prog 39 #[.slice ao l.length cap, .string ⟨#[]⟩] w fun e w' => e = .returned (.string (str (joinL l))) ∧ St w w' [] [] := by
    by_cases hnil : l = []
    · subst hnil
      exact (Tryd.strings_Join_none ao cap ⟨#[]⟩ w).mono fun e w' ⟨h1, h2⟩ => ⟨h1, h2 ▸ St.refl w⟩
    · have hpos : 0 < l.length := List.length_pos_iff.2 hnil
      obtain ⟨rfl, c0⟩ := hc 0 hpos
      have := Tryd.strings_Join blk off cap l ⟨#[]⟩ w (fun j x hx => by
        obtain ⟨hj, rfl⟩ := List.getElem?_eq_some_iff.1 hx
        exact (hc j hj).2) (World.block_lt_of_cell? w _ c0) (by omega) h1 (by rw [show (⟨#[]⟩ : ByteArray) = ByteArray.empty from rfl, lib_join]; exact hj)
      refine this.mono fun e w' ⟨h1, h2⟩ => ⟨?_, ⟨h2, by simp, by simp, by simp, by simp⟩⟩
      rw [h1, show (⟨#[]⟩ : ByteArray) = ByteArray.empty from rfl, lib_join]
      rfl
  have G := Mx.hid hG
  have hz : (str (joinL l)).size ≤ maxLen := by rw [str_size]; unfold maxLen; omega
  have HL := Mx.hid (str_size (joinL l))
  have HD := Mx.hid (str_data (joinL l))
  clear hc hv hG hj hl
  go_enter Tryd.func29, Tryd.ntmps29
  go_wp2_with fail
  refine G.out.mono ?_
  rintro e w' ⟨rfl, hs⟩
  clear G
  generalize str (joinL l) = S at *
  go_wp2_with ((with_reducible show wpList _ _ _ _ _ _); refine wpl_s2b rfl 9 36 5 _ rfl Tryd.underlying9 Tryd.underlying36 Tryd.underlying5 hs rfl hz ?_; intro v1 w1 hs1)
  go_ret
  exact ⟨_, rfl, hs1.cast HL.out (by rw [HD.out])⟩
theorem indexByte_neg (l : List UInt8) (c : UInt8) : decide (Lib.indexByte l c < 0) = decide (c ∉ l) := by
  induction l with
  | nil => simp [Lib.indexByte]
  | cons x l ih =>
    have hge := Lib.indexByte_ge l c
    rw [Lib.indexByte]
    by_cases h : x = c
    · subst h; simp
    · have ih' : Lib.indexByte l c < 0 ↔ c ∉ l := ⟨fun h => of_decide_eq_true (by rw [← ih]; exact decide_eq_true h), fun h => of_decide_eq_true (by rw [ih]; exact decide_eq_true h)⟩
      rw [if_neg (by simpa using h)]
      simp only [List.mem_cons, not_or, Ne.symm h, not_false_iff, true_and, decide_eq_decide]
      rw [← ih']
      split
      · rename_i h1; have := beq_iff_eq.1 h1; omega
      · rename_i h1
        have : ¬ Lib.indexByte l c = -1 := fun e => h1 (beq_iff_eq.2 e)
        omega
theorem text_any (v : Value) (l : List UInt8) (w : World) (hv : Sl w 1 v l.length (bs l)) :
    Calls Tryd.prog 19 #[v] w fun e w' => e = .returned (.bool (isText l)) ∧ w = w' := by
  obtain ⟨ao, cap, blk, off, rfl, h1, h2, _, hc⟩ := hv.byt
  have hG : Calls Tryd.prog 33 #[.slice ao l.length cap, .int .u8 0] w fun e w' => e = .returned (.int .i64 (Lib.indexByte l 0)) ∧ w' = w := by
    have hb : Lib.bytesOf (l.map fun x => (x.toNat : Int)) = l := by
      unfold Lib.bytesOf
      rw [List.map_map]
      conv => rhs; rw [← List.map_id l]
      exact List.map_congr_left fun x _ => by simp
    cases ao with
    | none =>
      have hnil : l = [] := by
        cases l with
        | nil => rfl
        | cons x l => exact absurd (hc 0 (by simp)).1 (by simp)
      subst hnil
      obtain ⟨ao', cap', he, _, _, _, h0, _⟩ := hv
      obtain ⟨rfl, rfl⟩ : none = ao' ∧ cap = cap' := by simpa using he
      obtain rfl := h0 rfl
      exact Tryd.bytes_IndexByte_nil 0 w
    | some a =>
      have := Tryd.bytes_IndexByte_at a l.length cap (l.map fun x => (x.toNat : Int)) 0 w (by simp) (fun i hi => by
        obtain ⟨ha, hcell⟩ := hc i hi
        obtain rfl := Option.some.inj ha
        rw [Addr.add_lit, hcell]
        simp [hi])
      rw [hb] at this
      exact this
  have HN : Hid (decide (Lib.indexByte l 0 < 0) = isText l) := indexByte_neg l 0
  have G := Mx.hid hG
  clear hc hv hG
  generalize Lib.indexByte l 0 = z at *
  go_enter Tryd.func19, Tryd.ntmps19
  go_wp2_with fail
  refine G.out.mono ?_
  rintro e w' ⟨rfl, rfl⟩
  go_wp2_with fail
  go_ret
  exact ⟨by rw [← HN.out]; rfl, rfl⟩
end Go.Proofs.YtafmgclhgmhflaaDoor
