/- The walk of obj.read: a tree. -/
import Derived.Test.YtloogjdafhjheaaGreatJ11ObjI
import Derived.Test.YtloogjdafhjheaaGreatJ3Held
namespace Go.Mx
open Go Go.RowKit
/-- No more is left, and what lacked lacks on. -/
def leS (t s : Src) : Prop := t.1.length ≤ s.1.length ∧ (t.2 = false → s.2 = false)
theorem leS.trans {a b c : Src} (h : leS a b) (g : leS b c) : leS a c := ⟨Nat.le_trans h.1 g.1, fun x => g.2 (h.2 x)⟩
theorem leS.refl (a : Src) : leS a a := ⟨Nat.le_refl _, id⟩
theorem tk_le (n : Nat) (s : Src) : leS (tk n s).2 s := by
  unfold tk leS
  split
  · exact ⟨Nat.le_refl _, fun h => by cases h⟩
  · rename_i h
    exact ⟨by simp, fun _ => by cases hs : s.2 with
      | true => exact absurd (.inl hs) h
      | false => rfl⟩
theorem tk_x (n : Nat) (s : Src) : (tk n s).1.length ≤ s.1.length := by
  unfold tk
  split <;> simp
  omega
theorem nm_le (s : Src) : leS (nm s).2 s := by
  unfold nm
  split
  · exact tk_le _ _
  · exact ⟨Nat.le_refl _, fun h => by cases h⟩
theorem on_le (s : Src) : leS (on s).2 s := tk_le _ _
theorem hs_le (s : Src) : leS (hs s).2 s := tk_le _ _
theorem on_lt (s : Src) (h : (on s).2.2 = false) : (on s).2.1.length + 1 ≤ s.1.length := by
  unfold on at *
  simp only [] at *
  unfold tk at *
  split at h
  · cases h
  · rename_i h2
    rw [if_neg h2]
    simp
    omega
theorem nm_max (s : Src) : (nm s).1 ≤ 72057594037927936 := by
  unfold nm
  split
  · rename_i h
    have := getS_bounds s.1 h
    show (getS s.1 0).1.toNat ≤ _
    omega
  · exact Nat.zero_le _
theorem rdItems_stop {n : Nat} {s : Src} (h : s.2 = true ∨ n = 0) : rdItems n s = ([], s) := by
  cases n with
  | zero => rfl
  | succ n =>
    rcases h with h | h
    · rw [rdItems, if_pos h]
    · cases h
theorem rdItems_step {n : Nat} {b : List UInt8} {m k : Nat} {x : List UInt8} {id : ByteArray} {s1 s2 s3 s4 : Src} (h1 : on (b, false) = (m, s1)) (h2 : nm s1 = (k, s2)) (h3 : tk k s2 = (x, s3)) (h4 : hs s3 = (id, s4)) :
    rdItems (n + 1) (b, false) = (((m : Int), str x, id) :: (rdItems n s4).1, (rdItems n s4).2) := by
  rw [rdItems, if_neg (by simp), h1]
  simp only []
  rw [h2]
  simp only []
  rw [h3]
  simp only []
  rw [h4]
theorem itms_len (l : List Itm) : (itms l).length = l.length * 3 := by
  induction l with
  | nil => rfl
  | cons x l ih => simp [itms, itmRow] at ih ⊢; omega
theorem itms_app (l m : List Itm) : itms (l ++ m) = itms l ++ itms m := by simp [itms]
theorem Sl.three (w : World) (x y z : Value) (e : TypeId) : Sl (w.alloc (.cells #[x, y, z] e)) 3 (.slice (some ⟨w.heap.size, 0, none⟩) 1 1) 1 [x, y, z] :=
  ((St.refl w).made #[x, y, z] e 3 1 rfl (by simp [maxLen])).sl0
theorem perm_or {α : Type} (o r i s : α) : [i, s, o, r].Perm [o, r, i, s] := List.perm_append_comm (l₁ := [i, s]) (l₂ := [o, r])
theorem perm_ro {α : Type} (o r i s : α) : [o, r, i, s].Perm [s, i, o, r] := (List.perm_append_comm (l₁ := [o, r]) (l₂ := [i, s])).trans (List.Perm.swap _ _ _)
end Go.Mx
namespace Go.Proofs.YtloogjdafhjheaaGreat
open Go.RowKit Go.Mx

theorem Tryz.elItem : El Tryz.prog 54 88 3 40 := El.mk' Tryz.underlying54 (z := .agg #[.int .i64 0, .string ByteArray.empty, .string ByteArray.empty]) (by kernel_rfl) rfl (by omega)

set_option maxRecDepth 100000 in
set_option maxHeartbeats 4000000 in
theorem read_tree (v : Value) (l : List UInt8) (w : World) (hv : Sl w 1 v l.length (bs l)) (hl : l.length ≤ 1000000000) :
    Calls Tryz.prog 65 #[.int .i64 2, v] w (ReadPost w (readO 2 l)) := by
  have HR : Hid (∀ t s, rdItems (nm (l, false)).1 (nm (l, false)).2 = (t, s) → readO 2 l = ⟨2, [], t, str [], [], 0, 0, str []⟩) := fun t s h => by
    unfold readO; rw [if_neg (by decide), if_pos rfl]; simp only [h]
  have HN := Mx.hid (fun wx R (h : St w wx R []) g v' (hs : St w wx ((⟨.slice (some ⟨g, 0, none⟩) 1 1, 129, 2, 1, [v', .bool false]⟩ : Row) :: R) []) (hv' : Sl w 1 v' l.length (bs l)) => srcNumber_go l hs hv' (by omega))
  have hnm := nm_max (l, false)
  have hle := nm_le (l, false)
  have HV0 := Mx.hid hv
  obtain ⟨ao, cap, rfl, h1, h2, _⟩ := hv.bytes
  have HZ := Mx.hid (((St.refl w).madeAt ([.int .i64 (0), .slice none 0 0, .slice none 0 0, .string (str []), .slice none 0 0, .int .i64 (0), .int .i64 (0), .string (str [])]).toArray 56 8 1 w.heap.size rfl (by simp [maxLen]) rfl).madeAt ([.int .i64 (0), .slice none 0 0, .slice none 0 0, .string (str []), .slice none 0 0, .int .i64 (0), .int .i64 (0), .string (str [])]).toArray 56 8 1 (w.heap.size + 1) rfl (by simp [maxLen]) (by rw [heap_size_alloc]))
  clear hv HN
  have HN := Mx.hid (fun wx g R (hs : St w wx ((⟨.slice (some ⟨g, 0, none⟩) 1 1, 129, 2, 1, [.slice ao l.length cap, .bool false]⟩ : Row) :: R) []) => srcNumber_go l hs HV0.out (by omega))
  generalize nm (l, false) = t at *
  obtain ⟨n, s0⟩ := t
  simp only [] at *
  have Hle := Mx.hid hle
  clear hle
  go_enter Tryz.func65, Tryz.ntmps65
  go_wp2_with (first | (((with_reducible show wpList _ _ _ _ _ _); refine wpl_storeA rfl 56 _ _ rfl Tryz.aObj HZ.out (0) rfl ([.int .i64 (2), .slice none 0 0, .slice none 0 0, .string (str []), .slice none 0 0, .int .i64 (0), .int .i64 (0), .string (str [])]) rfl (by rfl) (by simp) (by intro u hu; simp at hu; rcases hu with rfl | rfl | rfl | rfl | rfl | rfl | rfl | rfl <;> rfl) ?_; intro w1 hs1); clear HZ) | (((with_reducible show wpList _ _ _ _ _ _); refine wpl_box rfl 129 _ rfl hs1 ([.slice ao l.length cap, .bool false]) (by rfl) ?_; intro gx w2 hs2)) | (go_at_call 81; refine (HN.out _ _ _ hs2).mono ?_; rintro e w3 ⟨v3, rfl, hv3, hs3⟩))
  have hs4 : St w w3 [(⟨.slice (some ⟨gx, 0, none⟩) 1 1, 129, 2, 1, [v3, .bool s0.2]⟩ : Row), (⟨.slice none 0 0, 88, 3, (([] : List Itm)).length, itms (([] : List Itm))⟩ : Row), (⟨.slice (some ⟨w.heap.size + 1, 0, none⟩) 1 1, 56, 8, 1, [.int .i64 (2), .slice none 0 0, .slice none 0 0, .string (str []), .slice none 0 0, .int .i64 (0), .int .i64 (0), .string (str [])]⟩ : Row), (⟨.slice (some ⟨w.heap.size, 0, none⟩) 1 1, 56, 8, 1, [.int .i64 (0), .slice none 0 0, .slice none 0 0, .string (str []), .slice none 0 0, .int .i64 (0), .int .i64 (0), .string (str [])]⟩ : Row)] [] := (hs3.addNil 88 3).swap
  clear hs3 hs2 hs1
  go_loopw [8] (fun y wr => ∃ (i : Nat) (done : List Itm) (b : List UInt8) (sh : Bool) (vs iv : Value), y = .int .i64 i ∧ i ≤ n ∧ Hid (rdItems n s0 = (done ++ (rdItems (n - i) (b, sh)).1, (rdItems (n - i) (b, sh)).2)) ∧ Hid ((sh = false → done.length + b.length ≤ l.length) ∧ done.length ≤ l.length + 1 ∧ b.length ≤ l.length) ∧ Hid (Sl w 1 vs b.length (bs b)) ∧ St w wr [(⟨.slice (some ⟨gx, 0, none⟩) 1 1, 129, 2, 1, [vs, .bool sh]⟩ : Row), (⟨iv, 88, 3, (done).length, itms (done)⟩ : Row), (⟨.slice (some ⟨w.heap.size + 1, 0, none⟩) 1 1, 56, 8, 1, [.int .i64 (2), .slice none 0 0, iv, .string (str []), .slice none 0 0, .int .i64 (0), .int .i64 (0), .string (str [])]⟩ : Row), (⟨.slice (some ⟨w.heap.size, 0, none⟩) 1 1, 56, 8, 1, [.int .i64 (0), .slice none 0 0, .slice none 0 0, .string (str []), .slice none 0 0, .int .i64 (0), .int .i64 (0), .string (str [])]⟩ : Row)] []) (fun y _ => n - (intOf y).toNat)
  case atStart => exact ⟨0, [], s0.1, s0.2, v3, _, rfl, by omega, by simp [Hid], ⟨fun _ => by simpa using Hle.out.1, by simp, Hle.out.1⟩, hv3, hs4⟩
  case round =>
    obtain ⟨i, done, b, sh, vs, iv, rfl, hi, HE, HL, HV, hs⟩ := hrel
    have y0 : wr.cell? ⟨gx, 1, none⟩ = some (.bool sh) := hs.cell (j := 1) rfl
    clear hs4
    by_cases hstop : sh = true ∨ i = n
    · have HF := Mx.hid (HR.out done (b, sh) (by rw [HE.out, rdItems_stop (hstop.imp id (by omega))]; simp))
      have HB := Mx.hid (show done.length ≤ 1000000001 by have := HL.out.2.1; omega)
      have hiv := hs.sl1
      obtain ⟨io, ic, rfl, _⟩ := id hiv
      have hs9p := hs.perm (R' := [_, _, _, _]) ((List.Perm.swap _ _ _).trans (perm_or _ _ _ _))
      have HS := Mx.hid hs9p
      clear hiv
      by_cases hin : i = n
      · have q1 : decide ((i : Int) < (n : Int)) = false := decide_eq_false (by omega)
        have q2 : decide (i < n) = false := decide_eq_false (by omega)
        clear hin hstop hi
        go_wp2_with (first | ((with_reducible show wpList _ _ _ _ _ _); refine wpl_want rfl ?_) | ((with_reducible show wpList _ _ _ _ _ _); refine wpl_loadA rfl 56 _ rfl Tryz.aObj ((w.heap.size + 1)) (0) rfl ([.int .i64 (2), .slice none 0 0, .slice io done.length ic, .string (str []), .slice none 0 0, .int .i64 (0), .int .i64 (0), .string (str [])]) rfl (fun i u h => by rw [Nat.zero_add]; exact HS.out.rcell (List.mem_cons_self ..) h) ?_) | (((with_reducible show wpList _ _ _ _ _ _); refine wpl_storeA rfl 56 _ _ rfl Tryz.aObj (HS.out.perm (List.Perm.swap _ _ _)) (0) rfl ([.int .i64 (2), .slice none 0 0, .slice io done.length ic, .string (str []), .slice none 0 0, .int .i64 (0), .int .i64 (0), .string (str [])]) rfl (by rfl) (by simp) (by intro u hu; simp at hu; rcases hu with rfl | rfl | rfl | rfl | rfl | rfl | rfl | rfl <;> rfl) ?_; intro w9 hs9)))
        replace hs9 := hs9.cast rfl (show _ = [.int .i64 (2), .slice none 0 0, .slice io done.length ic, .string (str []), .slice none 0 0, .int .i64 (0), .int .i64 (0), .string (str [])] by simp)
        have hcw : ∀ i u, ([.int .i64 (2), .slice none 0 0, .slice io done.length ic, .string (str []), .slice none 0 0, .int .i64 (0), .int .i64 (0), .string (str [])])[i]? = some u → w9.cell? ⟨w.heap.size, i, none⟩ = some u := fun i u h => hs9.rcell (List.mem_cons_self ..) h
        refine bodyPost_ret (v := .agg ([.int .i64 (2), .slice none 0 0, .slice io done.length ic, .string (str []), .slice none 0 0, .int .i64 (0), .int .i64 (0), .string (str [])]).toArray) (results_cellA Tryz.results65 _ Tryz.aObj (g := w.heap.size) ([.int .i64 (2), .slice none 0 0, .slice io done.length ic, .string (str []), .slice none 0 0, .int .i64 (0), .int .i64 (0), .string (str [])]) ?_ rfl hcw) ?_ ⟨_, _, _, by rw [HF.out]; rfl, by rw [HF.out]; exact (hs9.perm (R' := [_, _, _, _]) (List.perm_append_comm (l₁ := [_, _]) (l₂ := [_, _]))).head.addNil _ _ |>.addNil _ _ |>.perm (R' := [_, _, _]) (List.perm_append_comm (l₁ := [_]) (l₂ := [_, _]))⟩
        · first | (simp; done) | simp [Act.put]
        · first | (simp; done) | simp [Act.put]
      · obtain rfl : sh = true := by rcases hstop with h | h; exact h; exact absurd h hin
        have hlt : i < n := by omega
        clear hin hstop
        go_wp2_with (first | ((with_reducible show wpList _ _ _ _ _ _); refine wpl_want rfl ?_) | ((with_reducible show wpList _ _ _ _ _ _); refine wpl_loadA rfl 56 _ rfl Tryz.aObj ((w.heap.size + 1)) (0) rfl ([.int .i64 (2), .slice none 0 0, .slice io done.length ic, .string (str []), .slice none 0 0, .int .i64 (0), .int .i64 (0), .string (str [])]) rfl (fun i u h => by rw [Nat.zero_add]; exact HS.out.rcell (List.mem_cons_self ..) h) ?_) | (((with_reducible show wpList _ _ _ _ _ _); refine wpl_storeA rfl 56 _ _ rfl Tryz.aObj (HS.out.perm (List.Perm.swap _ _ _)) (0) rfl ([.int .i64 (2), .slice none 0 0, .slice io done.length ic, .string (str []), .slice none 0 0, .int .i64 (0), .int .i64 (0), .string (str [])]) rfl (by rfl) (by simp) (by intro u hu; simp at hu; rcases hu with rfl | rfl | rfl | rfl | rfl | rfl | rfl | rfl <;> rfl) ?_; intro w9 hs9)))
        replace hs9 := hs9.cast rfl (show _ = [.int .i64 (2), .slice none 0 0, .slice io done.length ic, .string (str []), .slice none 0 0, .int .i64 (0), .int .i64 (0), .string (str [])] by simp)
        have hcw : ∀ i u, ([.int .i64 (2), .slice none 0 0, .slice io done.length ic, .string (str []), .slice none 0 0, .int .i64 (0), .int .i64 (0), .string (str [])])[i]? = some u → w9.cell? ⟨w.heap.size, i, none⟩ = some u := fun i u h => hs9.rcell (List.mem_cons_self ..) h
        refine bodyPost_ret (v := .agg ([.int .i64 (2), .slice none 0 0, .slice io done.length ic, .string (str []), .slice none 0 0, .int .i64 (0), .int .i64 (0), .string (str [])]).toArray) (results_cellA Tryz.results65 _ Tryz.aObj (g := w.heap.size) ([.int .i64 (2), .slice none 0 0, .slice io done.length ic, .string (str []), .slice none 0 0, .int .i64 (0), .int .i64 (0), .string (str [])]) ?_ rfl hcw) ?_ ⟨_, _, _, by rw [HF.out]; rfl, by rw [HF.out]; exact (hs9.perm (R' := [_, _, _, _]) (List.perm_append_comm (l₁ := [_, _]) (l₂ := [_, _]))).head.addNil _ _ |>.addNil _ _ |>.perm (R' := [_, _, _]) (List.perm_append_comm (l₁ := [_]) (l₂ := [_, _]))⟩
        · first | (simp; done) | simp [Act.put]
        · first | (simp; done) | simp [Act.put]
    · obtain rfl : sh = false := by cases sh with
        | false => rfl
        | true => exact absurd (.inl rfl) hstop
      have hlt : i < n := by rcases Nat.lt_or_ge i n with h | h; exact h; exact absurd (.inr (by omega)) hstop
      have HL0 := Mx.hid (show done.length + b.length ≤ l.length ∧ b.length ≤ l.length from ⟨HL.out.1 rfl, HL.out.2.2⟩)
      have l1 := on_le (b, false)
      have l1b := on_lt (b, false)
      have H1 := Mx.hid (one_go b hs HV.out)
      have hon := Mx.hid (rfl : on (b, false) = on (b, false))
      generalize hA : on (b, false) = A at *
      have HA := Mx.hid hA
      clear hon hA
      obtain ⟨m, b1, g1⟩ := A
      have l2 := nm_le (b1, g1)
      have H2 := Mx.hid (fun wx (v : Value) (hs : St w wx [(⟨.slice (some ⟨gx, 0, none⟩) 1 1, 129, 2, 1, [v, .bool g1]⟩ : Row), (⟨iv, 88, 3, (done).length, itms (done)⟩ : Row), (⟨.slice (some ⟨w.heap.size + 1, 0, none⟩) 1 1, 56, 8, 1, [.int .i64 (2), .slice none 0 0, iv, .string (str []), .slice none 0 0, .int .i64 (0), .int .i64 (0), .string (str [])]⟩ : Row), (⟨.slice (some ⟨w.heap.size, 0, none⟩) 1 1, 56, 8, 1, [.int .i64 (0), .slice none 0 0, .slice none 0 0, .string (str []), .slice none 0 0, .int .i64 (0), .int .i64 (0), .string (str [])]⟩ : Row)] []) (hv : Sl w 1 v b1.length (bs b1)) => srcNumber_go b1 hs hv (by have := HL.out.2.2; have := l1.1; simp only [] at this; omega))
      have hk := nm_max (b1, g1)
      generalize hA2 : nm (b1, g1) = A2 at *
      have HA2 := Mx.hid hA2
      clear hA2
      obtain ⟨k, b2, g2⟩ := A2
      have l3 := tk_le k (b2, g2)
      have l3x := tk_x k (b2, g2)
      have H3 := Mx.hid (fun wx (v : Value) (hs : St w wx [(⟨.slice (some ⟨gx, 0, none⟩) 1 1, 129, 2, 1, [v, .bool g2]⟩ : Row), (⟨iv, 88, 3, (done).length, itms (done)⟩ : Row), (⟨.slice (some ⟨w.heap.size + 1, 0, none⟩) 1 1, 56, 8, 1, [.int .i64 (2), .slice none 0 0, iv, .string (str []), .slice none 0 0, .int .i64 (0), .int .i64 (0), .string (str [])]⟩ : Row), (⟨.slice (some ⟨w.heap.size, 0, none⟩) 1 1, 56, 8, 1, [.int .i64 (0), .slice none 0 0, .slice none 0 0, .string (str []), .slice none 0 0, .int .i64 (0), .int .i64 (0), .string (str [])]⟩ : Row)] []) (hv : Sl w 1 v b2.length (bs b2)) => take_go b2 k hs hv (by simp only [] at hk; omega))
      generalize hA3 : tk k (b2, g2) = A3 at *
      have HA3 := Mx.hid hA3
      clear hA3
      obtain ⟨x, b3, g3⟩ := A3
      have l4 := Mx.hs_le (b3, g3)
      have H4 := Mx.hid (fun wx (v : Value) (hs : St w wx [(⟨.slice (some ⟨gx, 0, none⟩) 1 1, 129, 2, 1, [v, .bool g3]⟩ : Row), (⟨iv, 88, 3, (done).length, itms (done)⟩ : Row), (⟨.slice (some ⟨w.heap.size + 1, 0, none⟩) 1 1, 56, 8, 1, [.int .i64 (2), .slice none 0 0, iv, .string (str []), .slice none 0 0, .int .i64 (0), .int .i64 (0), .string (str [])]⟩ : Row), (⟨.slice (some ⟨w.heap.size, 0, none⟩) 1 1, 56, 8, 1, [.int .i64 (0), .slice none 0 0, .slice none 0 0, .string (str []), .slice none 0 0, .int .i64 (0), .int .i64 (0), .string (str [])]⟩ : Row)] []) (hv : Sl w 1 v b3.length (bs b3)) => srcHash_go b3 hs hv)
      generalize hA4 : Mx.hs (b3, g3) = A4 at *
      have HA4 := Mx.hid hA4
      clear hA4
      obtain ⟨hsh, b4, g4⟩ := A4
      simp only [] at *
      have HS := Mx.hid (rdItems_step (n := n - (i + 1)) HA.out HA2.out HA3.out HA4.out)
      have L4 := Mx.hid ((l4.trans l3).trans (l2.trans l1))
      have LT := Mx.hid (show g4 = false → b4.length + 1 ≤ b.length from fun h => by
        have e1 := ((l4.trans l3).trans l2)
        have e2 := l1b (e1.2 h)
        have e3 := e1.1
        simp only [] at e2 e3
        omega)
      have y2 : wr.cell? ⟨w.heap.size + 1, 2, none⟩ = some iv := hs.rcell (j := 2) (List.mem_cons_of_mem _ (List.mem_cons_of_mem _ (List.mem_cons_self ..))) rfl
      clear l1 l1b l2 l3 l3x l4 hk hstop HA HA2 HA3 HA4
      go_wp2_with (first | ((with_reducible show wpList _ _ _ _ _ _); refine wpl_want rfl ?_) | (go_at_call 82; refine H1.out.mono ?_; rintro e w4 ⟨v4, rfl, hv4, hs4⟩) | (go_at_call 81; refine (H2.out _ _ hs4 hv4).mono ?_; rintro e w5 ⟨v5, rfl, hv5, hs5⟩) | (go_at_call 83; refine (H3.out _ _ hs5 hv5).mono ?_; rintro e w6 ⟨vx, v6, rfl, hx, hv6, hs6⟩) | ((with_reducible show wpList _ _ _ _ _ _); refine wpl_b2s rfl 51 9 5 _ rfl Tryz.underlying51 Tryz.underlying5 Tryz.underlying9 (by exact hs6.old hx) ?_))
      have y3 := hs6.rcell (j := 2) (List.mem_cons_of_mem _ (List.mem_cons_of_mem _ (List.mem_cons_self ..))) rfl
      (refine wp_region_S (9) (fun W' => W'.cell? ⟨w.heap.size + 1, 2, none⟩ = some iv) (by kernel_rfl) ?_ (fun hHeld => ?_); (focus ((try dsimp only); go_keep)))
      (refine wpAnyS_takeL (i := 0) (v := ?_) rfl (by kernel_rfl) (by kernel_rfl) (by kernel_rfl) (by kernel_rfl) (by kernel_rfl) (by kernel_rfl) (fun _ _ _ h => h) (Or.inl ⟨by rfl, ?_⟩) hHeld ?_; rotate_left 1; (focus (intro w' hSw; (try dsimp only at hSw); go_simp; (try with_reducible rfl))); (try simp only [Act.put, List.setIfInBounds_toArray, List.set_cons_zero, List.set_cons_succ]))
      (refine wpAnyS_takeL (i := 1) (v := ?_) rfl (by kernel_rfl) (by kernel_rfl) (by kernel_rfl) (by kernel_rfl) (by kernel_rfl) (by kernel_rfl) (fun _ _ _ h => h) (Or.inl ⟨by rfl, ?_⟩) hHeld ?_; rotate_left 1; (focus (intro w' hSw; (try dsimp only at hSw); go_simp; (try with_reducible rfl))); (try simp only [Act.put, List.setIfInBounds_toArray, List.set_cons_zero, List.set_cons_succ]))
      (refine wpAnyS_takeL (i := 2) (v := ?_) rfl (by kernel_rfl) (by kernel_rfl) (by kernel_rfl) (by kernel_rfl) (by kernel_rfl) (by kernel_rfl) (fun _ _ _ h => h) (Or.inl ⟨by rfl, ?_⟩) hHeld ?_; rotate_left 1; (focus (intro w' hSw; (try dsimp only at hSw); go_simp; (try with_reducible rfl))); (try simp only [Act.put, List.setIfInBounds_toArray, List.set_cons_zero, List.set_cons_succ]))
      (refine wpAnyS_takeL (i := 3) (v := ?_) rfl (by kernel_rfl) (by kernel_rfl) (by kernel_rfl) (by kernel_rfl) (by kernel_rfl) (by kernel_rfl) (fun _ _ _ h => h) (Or.inl ⟨by rfl, ?_⟩) hHeld ?_; rotate_left 1; (focus (intro w' hSw; (try dsimp only at hSw); go_simp; (try with_reducible rfl))); (try simp only [Act.put, List.setIfInBounds_toArray, List.set_cons_zero, List.set_cons_succ]))
      (refine wpAnyS_takeL (i := 4) (v := ?_) rfl (by kernel_rfl) (by kernel_rfl) (by kernel_rfl) (by kernel_rfl) (by kernel_rfl) (by kernel_rfl) (fun _ _ _ h => h) (Or.inl ⟨by rfl, ?_⟩) hHeld ?_; rotate_left 1; (focus (intro w' hSw; (try dsimp only at hSw); go_simp; (try with_reducible rfl))); (try simp only [Act.put, List.setIfInBounds_toArray, List.set_cons_zero, List.set_cons_succ]))
      (refine wpAnyS_ready (rs := [5]) (by kernel_rfl) (by simp) ?_; refine AllS.consL rfl (fun K hK => ?_) AllS.nil)
      (go_simp; go_at_call 84; refine (H4.out _ _ hs6.drew hv6).mono ?_; rintro e w' ⟨v7, rfl, hv7, hs7⟩; go_wp2_with fail)
      (refine hK.out _ _ ?_ (fun hHeld => ?_); (focus ((try dsimp only); exact hs7.rcell (j := 2) (List.mem_cons_of_mem _ (List.mem_cons_of_mem _ (List.mem_cons_self ..))) rfl)); clear hK K; (try simp only [Act.put, List.setIfInBounds_toArray, List.set_cons_zero, List.set_cons_succ]))
      (refine wpAnyS_takeL (i := 6) (v := ?_) rfl (by kernel_rfl) (by kernel_rfl) (by kernel_rfl) (by kernel_rfl) (by kernel_rfl) (by kernel_rfl) (fun _ _ _ h => h) (Or.inl ⟨by rfl, ?_⟩) hHeld ?_; rotate_left 1; (focus (intro w' hSw; (try dsimp only at hSw); go_simp; (try with_reducible rfl))); (try simp only [Act.put, List.setIfInBounds_toArray, List.set_cons_zero, List.set_cons_succ]))
      (refine wpAnyS_ready (rs := [7]) (by kernel_rfl) (by simp) ?_; refine AllS.consL rfl (fun K hK => ?_) AllS.nil)
      go_simp
      (refine hK.out _ _ ?_ (fun hHeld => ?_); (focus ((try dsimp only); exact (hs7.alloc _).rcell (j := 2) (List.mem_cons_of_mem _ (List.mem_cons_of_mem _ (List.mem_cons_self ..))) rfl)); clear hK K; (try simp only [Act.put, List.setIfInBounds_toArray, List.set_cons_zero, List.set_cons_succ]))
      have HB := Mx.hid (show done.length ≤ 1000000001 by have := HL.out.2.1; omega)
      have hdl := HB.out
      (refine wpAnyS_ready (rs := [8]) (by kernel_rfl) (by simp) ?_; refine AllS.consL rfl (fun K hK => ?_) AllS.nil)
      refine step_app rfl _ _ 54 rfl Tryz.elItem (by exact (hs7.alloc _).swap) rfl (by exact Sl.three _ _ _ _ _) (by intro u hu; simp at hu; rcases hu with rfl | rfl | rfl <;> rfl) (by omega) ?_
      intro v8 w8 hs8 _
      obtain ⟨vo, vc, rfl, _⟩ := id hs8.sl0
      (refine hK.out _ _ ?_ (fun hHeld => ?_); (focus ((try dsimp only); exact hs8.rcell (j := 2) (List.mem_cons_of_mem _ (List.mem_cons_of_mem _ (List.mem_cons_self ..))) rfl)); clear hK K; (try simp only [Act.put, List.setIfInBounds_toArray, List.set_cons_zero, List.set_cons_succ]))
      (refine wpAnyS_seq (by rfl) (by kernel_rfl) ?_; simp only [List.drop_succ_cons, List.drop_zero])
      go_wp2_with ((with_reducible show wpList _ _ _ _ _ _); refine wpl_store1 rfl 54 _ _ rfl (hs8.perm (perm_or _ _ _ _)) (2) rfl (.slice vo (done.length + 1) vc) rfl rfl (by kernel_rfl) (by simp) rfl ?_; intro w9 hs9)
      case roundEnd => exact ⟨⟨i + 1, done ++ [((m : Int), str x, hsh)], b4, g4, v7, _, by go_num, by omega, (by show _ = _; rw [HE.out, show n - i = (n - (i + 1)) + 1 by omega, HS.out]; simp), (by obtain ⟨e1, e2⟩ := HL0.out; have e3 : b4.length ≤ b.length := L4.out.1; refine ⟨fun h => ?_, by simp; omega, by omega⟩; have e4 := LT.out h; simp; omega), hv7, (hs9.perm (perm_ro _ _ _ _)).swap.cast (by simp) (by simp [itms, itmRow]) |>.swap⟩, by simp [intOf]; omega⟩
end Go.Proofs.YtloogjdafhjheaaGreat
