/- The walk of obj.read: a tree. The walk of obj.read: a commit; read whole. The walk of obj.Decode. -/
import Derived.Test.YtlfdnlomlbbicaaDoorJ13Clone
import Derived.Test.YtlfdnlomlbbicaaDoorHeld
namespace Go.Mx
open Go Go.RowKit
/-- No more is left, and what lacked lacks on. -/
def leS (t s : Src) : Prop := t.1.length ≤ s.1.length ∧ (t.2 = false → s.2 = false)
theorem leS.trans {a b c : Src} (h : leS a b) (g : leS b c) : leS a c := ⟨Nat.le_trans h.1 g.1, fun x => g.2 (h.2 x)⟩
theorem leS.refl (a : Src) : leS a a := ⟨Nat.le_refl _, id⟩
theorem tk_le (n : Nat) (s : Src) : leS (tk n s).2 s := by
  unfold tk leS
  split
  · exact ⟨Nat.le_refl _, fun h => by cases h⟩
  · rename_i h
    exact ⟨by simp, fun _ => by cases hs : s.2 with
      | true => exact absurd (.inl hs) h
      | false => rfl⟩
theorem tk_x (n : Nat) (s : Src) : (tk n s).1.length ≤ s.1.length := by
  unfold tk
  split <;> simp
  omega
theorem nm_le (s : Src) : leS (nm s).2 s := by
  unfold nm
  split
  · exact tk_le _ _
  · exact ⟨Nat.le_refl _, fun h => by cases h⟩
theorem on_le (s : Src) : leS (on s).2 s := tk_le _ _
theorem hs_le (s : Src) : leS (hs s).2 s := tk_le _ _
theorem on_lt (s : Src) (h : (on s).2.2 = false) : (on s).2.1.length + 1 ≤ s.1.length := by
  unfold on at *
  simp only [] at *
  unfold tk at *
  split at h
  · cases h
  · rename_i h2
    rw [if_neg h2]
    simp
    omega
theorem nm_max (s : Src) : (nm s).1 ≤ 72057594037927936 := by
  unfold nm
  split
  · rename_i h
    have := getS_bounds s.1 h
    show (getS s.1 0).1.toNat ≤ _
    omega
  · exact Nat.zero_le _
theorem rdItems_stop {n : Nat} {s : Src} (h : s.2 = true ∨ n = 0) : rdItems n s = ([], s) := by
  cases n with
  | zero => rfl
  | succ n =>
    rcases h with h | h
    · rw [rdItems, if_pos h]
    · cases h
theorem rdItems_step {n : Nat} {b : List UInt8} {m k : Nat} {x : List UInt8} {id : ByteArray} {s1 s2 s3 s4 : Src} (h1 : on (b, false) = (m, s1)) (h2 : nm s1 = (k, s2)) (h3 : tk k s2 = (x, s3)) (h4 : hs s3 = (id, s4)) :
    rdItems (n + 1) (b, false) = (((m : Int), str x, id) :: (rdItems n s4).1, (rdItems n s4).2) := by
  rw [rdItems, if_neg (by simp), h1]
  simp only []
  rw [h2]
  simp only []
  rw [h3]
  simp only []
  rw [h4]
theorem itms_len (l : List Itm) : (itms l).length = l.length * 3 := by
  induction l with
  | nil => rfl
  | cons x l ih => simp [itms, itmRow] at ih ⊢; omega
theorem itms_app (l m : List Itm) : itms (l ++ m) = itms l ++ itms m := by simp [itms]
theorem Sl.three (w : World) (x y z : Value) (e : TypeId) : Sl (w.alloc (.cells #[x, y, z] e)) 3 (.slice (some ⟨w.heap.size, 0, none⟩) 1 1) 1 [x, y, z] :=
  ((St.refl w).made #[x, y, z] e 3 1 rfl (by simp [maxLen])).sl0
theorem perm_or {α : Type} (o r i s : α) : [i, s, o, r].Perm [o, r, i, s] := List.perm_append_comm (l₁ := [i, s]) (l₂ := [o, r])
theorem perm_ro {α : Type} (o r i s : α) : [o, r, i, s].Perm [s, i, o, r] := (List.perm_append_comm (l₁ := [o, r]) (l₂ := [i, s])).trans (List.Perm.swap _ _ _)
end Go.Mx
namespace Go.Proofs.YtlfdnlomlbbicaaDoor
open Go.RowKit Go.Mx

theorem Tryd.elItem : El Tryd.prog 51 99 3 40 := El.mk' Tryd.underlying51 (z := .agg #[.int .i64 0, .string ByteArray.empty, .string ByteArray.empty]) (by kernel_rfl) rfl (by omega)

set_option maxRecDepth 100000 in
set_option maxHeartbeats 4000000 in
theorem read_tree (v : Value) (l : List UInt8) (w : World) (hv : Sl w 1 v l.length (bs l)) (hl : l.length ≤ 1000000000) :
    Calls Tryd.prog 31 #[.int .i64 2, v] w (ReadPost w (readO 2 l)) := by
  have HR : Hid (∀ t s, rdItems (nm (l, false)).1 (nm (l, false)).2 = (t, s) → readO 2 l = ⟨2, [], t, str [], [], 0, 0, str []⟩) := fun t s h => by
    unfold readO; rw [if_neg (by decide), if_pos rfl]; simp only [h]
  have HN := Mx.hid (fun wx R (h : St w wx R []) g v' (hs : St w wx ((⟨.slice (some ⟨g, 0, none⟩) 1 1, 96, 2, 1, [v', .bool false]⟩ : Row) :: R) []) (hv' : Sl w 1 v' l.length (bs l)) => srcNumber_go l hs hv' (by omega))
  have hnm := nm_max (l, false)
  have hle := nm_le (l, false)
  have HV0 := Mx.hid hv
  obtain ⟨ao, cap, rfl, h1, h2, _⟩ := hv.bytes
  have HZ := Mx.hid (((St.refl w).madeAt ([.int .i64 (0), .slice none 0 0, .slice none 0 0, .string (str []), .slice none 0 0, .int .i64 (0), .int .i64 (0), .string (str [])]).toArray 54 8 1 w.heap.size rfl (by simp [maxLen]) rfl).madeAt ([.int .i64 (0), .slice none 0 0, .slice none 0 0, .string (str []), .slice none 0 0, .int .i64 (0), .int .i64 (0), .string (str [])]).toArray 54 8 1 (w.heap.size + 1) rfl (by simp [maxLen]) (by rw [heap_size_alloc]))
  clear hv HN
  have HN := Mx.hid (fun wx g R (hs : St w wx ((⟨.slice (some ⟨g, 0, none⟩) 1 1, 96, 2, 1, [.slice ao l.length cap, .bool false]⟩ : Row) :: R) []) => srcNumber_go l hs HV0.out (by omega))
  generalize nm (l, false) = t at *
  obtain ⟨n, s0⟩ := t
  simp only [] at *
  have Hle := Mx.hid hle
  clear hle
  go_enter Tryd.func31, Tryd.ntmps31
  go_wp2_with (first | (((with_reducible show wpList _ _ _ _ _ _); refine wpl_storeA rfl 54 _ _ rfl Tryd.aObj HZ.out (0) rfl ([.int .i64 (2), .slice none 0 0, .slice none 0 0, .string (str []), .slice none 0 0, .int .i64 (0), .int .i64 (0), .string (str [])]) rfl (by rfl) (by simp) (by intro u hu; simp at hu; rcases hu with rfl | rfl | rfl | rfl | rfl | rfl | rfl | rfl <;> rfl) ?_; intro w1 hs1); clear HZ) | (((with_reducible show wpList _ _ _ _ _ _); refine wpl_box rfl 96 _ rfl hs1 ([.slice ao l.length cap, .bool false]) (by rfl) ?_; intro gx w2 hs2)) | (go_at_call 45; refine (HN.out _ _ _ hs2).mono ?_; rintro e w3 ⟨v3, rfl, hv3, hs3⟩))
  have hs4 : St w w3 [(⟨.slice (some ⟨gx, 0, none⟩) 1 1, 96, 2, 1, [v3, .bool s0.2]⟩ : Row), (⟨.slice none 0 0, 99, 3, (([] : List Itm)).length, itms (([] : List Itm))⟩ : Row), (⟨.slice (some ⟨w.heap.size + 1, 0, none⟩) 1 1, 54, 8, 1, [.int .i64 (2), .slice none 0 0, .slice none 0 0, .string (str []), .slice none 0 0, .int .i64 (0), .int .i64 (0), .string (str [])]⟩ : Row), (⟨.slice (some ⟨w.heap.size, 0, none⟩) 1 1, 54, 8, 1, [.int .i64 (0), .slice none 0 0, .slice none 0 0, .string (str []), .slice none 0 0, .int .i64 (0), .int .i64 (0), .string (str [])]⟩ : Row)] [] := (hs3.addNil 99 3).swap
  clear hs3 hs2 hs1
  go_loopw [8] (fun y wr => ∃ (i : Nat) (done : List Itm) (b : List UInt8) (sh : Bool) (vs iv : Value), y = .int .i64 i ∧ i ≤ n ∧ Hid (rdItems n s0 = (done ++ (rdItems (n - i) (b, sh)).1, (rdItems (n - i) (b, sh)).2)) ∧ Hid ((sh = false → done.length + b.length ≤ l.length) ∧ done.length ≤ l.length + 1 ∧ b.length ≤ l.length) ∧ Hid (Sl w 1 vs b.length (bs b)) ∧ St w wr [(⟨.slice (some ⟨gx, 0, none⟩) 1 1, 96, 2, 1, [vs, .bool sh]⟩ : Row), (⟨iv, 99, 3, (done).length, itms (done)⟩ : Row), (⟨.slice (some ⟨w.heap.size + 1, 0, none⟩) 1 1, 54, 8, 1, [.int .i64 (2), .slice none 0 0, iv, .string (str []), .slice none 0 0, .int .i64 (0), .int .i64 (0), .string (str [])]⟩ : Row), (⟨.slice (some ⟨w.heap.size, 0, none⟩) 1 1, 54, 8, 1, [.int .i64 (0), .slice none 0 0, .slice none 0 0, .string (str []), .slice none 0 0, .int .i64 (0), .int .i64 (0), .string (str [])]⟩ : Row)] []) (fun y _ => n - (intOf y).toNat)
  case atStart => exact ⟨0, [], s0.1, s0.2, v3, _, rfl, by omega, by simp [Hid], ⟨fun _ => by simpa using Hle.out.1, by simp, Hle.out.1⟩, hv3, hs4⟩
  case round =>
    obtain ⟨i, done, b, sh, vs, iv, rfl, hi, HE, HL, HV, hs⟩ := hrel
    have y0 : wr.cell? ⟨gx, 1, none⟩ = some (.bool sh) := hs.cell (j := 1) rfl
    clear hs4
    by_cases hstop : sh = true ∨ i = n
    · have HF := Mx.hid (HR.out done (b, sh) (by rw [HE.out, rdItems_stop (hstop.imp id (by omega))]; simp))
      have HB := Mx.hid (show done.length ≤ 1000000001 by have := HL.out.2.1; omega)
      have hiv := hs.sl1
      obtain ⟨io, ic, rfl, _⟩ := id hiv
      have hs9p := hs.perm (R' := [_, _, _, _]) ((List.Perm.swap _ _ _).trans (perm_or _ _ _ _))
      have HS := Mx.hid hs9p
      clear hiv
      by_cases hin : i = n
      · have q1 : decide ((i : Int) < (n : Int)) = false := decide_eq_false (by omega)
        have q2 : decide (i < n) = false := decide_eq_false (by omega)
        clear hin hstop hi
        go_wp2_with (first | ((with_reducible show wpList _ _ _ _ _ _); refine wpl_want rfl ?_) | ((with_reducible show wpList _ _ _ _ _ _); refine wpl_loadA rfl 54 _ rfl Tryd.aObj ((w.heap.size + 1)) (0) rfl ([.int .i64 (2), .slice none 0 0, .slice io done.length ic, .string (str []), .slice none 0 0, .int .i64 (0), .int .i64 (0), .string (str [])]) rfl (fun i u h => by rw [Nat.zero_add]; exact HS.out.rcell (List.mem_cons_self ..) h) ?_) | (((with_reducible show wpList _ _ _ _ _ _); refine wpl_storeA rfl 54 _ _ rfl Tryd.aObj (HS.out.perm (List.Perm.swap _ _ _)) (0) rfl ([.int .i64 (2), .slice none 0 0, .slice io done.length ic, .string (str []), .slice none 0 0, .int .i64 (0), .int .i64 (0), .string (str [])]) rfl (by rfl) (by simp) (by intro u hu; simp at hu; rcases hu with rfl | rfl | rfl | rfl | rfl | rfl | rfl | rfl <;> rfl) ?_; intro w9 hs9)))
        replace hs9 := hs9.cast rfl (show _ = [.int .i64 (2), .slice none 0 0, .slice io done.length ic, .string (str []), .slice none 0 0, .int .i64 (0), .int .i64 (0), .string (str [])] by simp)
        have hcw : ∀ i u, ([.int .i64 (2), .slice none 0 0, .slice io done.length ic, .string (str []), .slice none 0 0, .int .i64 (0), .int .i64 (0), .string (str [])])[i]? = some u → w9.cell? ⟨w.heap.size, i, none⟩ = some u := fun i u h => hs9.rcell (List.mem_cons_self ..) h
        refine bodyPost_ret (v := .agg ([.int .i64 (2), .slice none 0 0, .slice io done.length ic, .string (str []), .slice none 0 0, .int .i64 (0), .int .i64 (0), .string (str [])]).toArray) (results_cellA Tryd.results31 _ Tryd.aObj (g := w.heap.size) ([.int .i64 (2), .slice none 0 0, .slice io done.length ic, .string (str []), .slice none 0 0, .int .i64 (0), .int .i64 (0), .string (str [])]) ?_ rfl hcw) ?_ ⟨_, _, _, by rw [HF.out]; rfl, by rw [HF.out]; exact (hs9.perm (R' := [_, _, _, _]) (List.perm_append_comm (l₁ := [_, _]) (l₂ := [_, _]))).head.addNil _ _ |>.addNil _ _ |>.perm (R' := [_, _, _]) (List.perm_append_comm (l₁ := [_]) (l₂ := [_, _]))⟩
        · first | (simp; done) | simp [Act.put]
        · first | (simp; done) | simp [Act.put]
      · obtain rfl : sh = true := by rcases hstop with h | h; exact h; exact absurd h hin
        have hlt : i < n := by omega
        clear hin hstop
        go_wp2_with (first | ((with_reducible show wpList _ _ _ _ _ _); refine wpl_want rfl ?_) | ((with_reducible show wpList _ _ _ _ _ _); refine wpl_loadA rfl 54 _ rfl Tryd.aObj ((w.heap.size + 1)) (0) rfl ([.int .i64 (2), .slice none 0 0, .slice io done.length ic, .string (str []), .slice none 0 0, .int .i64 (0), .int .i64 (0), .string (str [])]) rfl (fun i u h => by rw [Nat.zero_add]; exact HS.out.rcell (List.mem_cons_self ..) h) ?_) | (((with_reducible show wpList _ _ _ _ _ _); refine wpl_storeA rfl 54 _ _ rfl Tryd.aObj (HS.out.perm (List.Perm.swap _ _ _)) (0) rfl ([.int .i64 (2), .slice none 0 0, .slice io done.length ic, .string (str []), .slice none 0 0, .int .i64 (0), .int .i64 (0), .string (str [])]) rfl (by rfl) (by simp) (by intro u hu; simp at hu; rcases hu with rfl | rfl | rfl | rfl | rfl | rfl | rfl | rfl <;> rfl) ?_; intro w9 hs9)))
        replace hs9 := hs9.cast rfl (show _ = [.int .i64 (2), .slice none 0 0, .slice io done.length ic, .string (str []), .slice none 0 0, .int .i64 (0), .int .i64 (0), .string (str [])] by simp)
        have hcw : ∀ i u, ([.int .i64 (2), .slice none 0 0, .slice io done.length ic, .string (str []), .slice none 0 0, .int .i64 (0), .int .i64 (0), .string (str [])])[i]? = some u → w9.cell? ⟨w.heap.size, i, none⟩ = some u := fun i u h => hs9.rcell (List.mem_cons_self ..) h
        refine bodyPost_ret (v := .agg ([.int .i64 (2), .slice none 0 0, .slice io done.length ic, .string (str []), .slice none 0 0, .int .i64 (0), .int .i64 (0), .string (str [])]).toArray) (results_cellA Tryd.results31 _ Tryd.aObj (g := w.heap.size) ([.int .i64 (2), .slice none 0 0, .slice io done.length ic, .string (str []), .slice none 0 0, .int .i64 (0), .int .i64 (0), .string (str [])]) ?_ rfl hcw) ?_ ⟨_, _, _, by rw [HF.out]; rfl, by rw [HF.out]; exact (hs9.perm (R' := [_, _, _, _]) (List.perm_append_comm (l₁ := [_, _]) (l₂ := [_, _]))).head.addNil _ _ |>.addNil _ _ |>.perm (R' := [_, _, _]) (List.perm_append_comm (l₁ := [_]) (l₂ := [_, _]))⟩
        · first | (simp; done) | simp [Act.put]
        · first | (simp; done) | simp [Act.put]
    · obtain rfl : sh = false := by cases sh with
        | false => rfl
        | true => exact absurd (.inl rfl) hstop
      have hlt : i < n := by rcases Nat.lt_or_ge i n with h | h; exact h; exact absurd (.inr (by omega)) hstop
      have HL0 := Mx.hid (show done.length + b.length ≤ l.length ∧ b.length ≤ l.length from ⟨HL.out.1 rfl, HL.out.2.2⟩)
      have l1 := on_le (b, false)
      have l1b := on_lt (b, false)
      have H1 := Mx.hid (one_go b hs HV.out)
      have hon := Mx.hid (rfl : on (b, false) = on (b, false))
      generalize hA : on (b, false) = A at *
      have HA := Mx.hid hA
      clear hon hA
      obtain ⟨m, b1, g1⟩ := A
      have l2 := nm_le (b1, g1)
      have H2 := Mx.hid (fun wx (v : Value) (hs : St w wx [(⟨.slice (some ⟨gx, 0, none⟩) 1 1, 96, 2, 1, [v, .bool g1]⟩ : Row), (⟨iv, 99, 3, (done).length, itms (done)⟩ : Row), (⟨.slice (some ⟨w.heap.size + 1, 0, none⟩) 1 1, 54, 8, 1, [.int .i64 (2), .slice none 0 0, iv, .string (str []), .slice none 0 0, .int .i64 (0), .int .i64 (0), .string (str [])]⟩ : Row), (⟨.slice (some ⟨w.heap.size, 0, none⟩) 1 1, 54, 8, 1, [.int .i64 (0), .slice none 0 0, .slice none 0 0, .string (str []), .slice none 0 0, .int .i64 (0), .int .i64 (0), .string (str [])]⟩ : Row)] []) (hv : Sl w 1 v b1.length (bs b1)) => srcNumber_go b1 hs hv (by have := HL.out.2.2; have := l1.1; simp only [] at this; omega))
      have hk := nm_max (b1, g1)
      generalize hA2 : nm (b1, g1) = A2 at *
      have HA2 := Mx.hid hA2
      clear hA2
      obtain ⟨k, b2, g2⟩ := A2
      have l3 := tk_le k (b2, g2)
      have l3x := tk_x k (b2, g2)
      have H3 := Mx.hid (fun wx (v : Value) (hs : St w wx [(⟨.slice (some ⟨gx, 0, none⟩) 1 1, 96, 2, 1, [v, .bool g2]⟩ : Row), (⟨iv, 99, 3, (done).length, itms (done)⟩ : Row), (⟨.slice (some ⟨w.heap.size + 1, 0, none⟩) 1 1, 54, 8, 1, [.int .i64 (2), .slice none 0 0, iv, .string (str []), .slice none 0 0, .int .i64 (0), .int .i64 (0), .string (str [])]⟩ : Row), (⟨.slice (some ⟨w.heap.size, 0, none⟩) 1 1, 54, 8, 1, [.int .i64 (0), .slice none 0 0, .slice none 0 0, .string (str []), .slice none 0 0, .int .i64 (0), .int .i64 (0), .string (str [])]⟩ : Row)] []) (hv : Sl w 1 v b2.length (bs b2)) => take_go b2 k hs hv (by simp only [] at hk; omega))
      generalize hA3 : tk k (b2, g2) = A3 at *
      have HA3 := Mx.hid hA3
      clear hA3
      obtain ⟨x, b3, g3⟩ := A3
      have l4 := Mx.hs_le (b3, g3)
      have H4 := Mx.hid (fun wx (v : Value) (hs : St w wx [(⟨.slice (some ⟨gx, 0, none⟩) 1 1, 96, 2, 1, [v, .bool g3]⟩ : Row), (⟨iv, 99, 3, (done).length, itms (done)⟩ : Row), (⟨.slice (some ⟨w.heap.size + 1, 0, none⟩) 1 1, 54, 8, 1, [.int .i64 (2), .slice none 0 0, iv, .string (str []), .slice none 0 0, .int .i64 (0), .int .i64 (0), .string (str [])]⟩ : Row), (⟨.slice (some ⟨w.heap.size, 0, none⟩) 1 1, 54, 8, 1, [.int .i64 (0), .slice none 0 0, .slice none 0 0, .string (str []), .slice none 0 0, .int .i64 (0), .int .i64 (0), .string (str [])]⟩ : Row)] []) (hv : Sl w 1 v b3.length (bs b3)) => srcHash_go b3 hs hv)
      generalize hA4 : Mx.hs (b3, g3) = A4 at *
      have HA4 := Mx.hid hA4
      clear hA4
      obtain ⟨hsh, b4, g4⟩ := A4
      simp only [] at *
      have HS := Mx.hid (rdItems_step (n := n - (i + 1)) HA.out HA2.out HA3.out HA4.out)
      have L4 := Mx.hid ((l4.trans l3).trans (l2.trans l1))
      have LT := Mx.hid (show g4 = false → b4.length + 1 ≤ b.length from fun h => by
        have e1 := ((l4.trans l3).trans l2)
        have e2 := l1b (e1.2 h)
        have e3 := e1.1
        simp only [] at e2 e3
        omega)
      have y2 : wr.cell? ⟨w.heap.size + 1, 2, none⟩ = some iv := hs.rcell (j := 2) (List.mem_cons_of_mem _ (List.mem_cons_of_mem _ (List.mem_cons_self ..))) rfl
      clear l1 l1b l2 l3 l3x l4 hk hstop HA HA2 HA3 HA4
      go_wp2_with (first | ((with_reducible show wpList _ _ _ _ _ _); refine wpl_want rfl ?_) | (go_at_call 46; refine H1.out.mono ?_; rintro e w4 ⟨v4, rfl, hv4, hs4⟩) | (go_at_call 45; refine (H2.out _ _ hs4 hv4).mono ?_; rintro e w5 ⟨v5, rfl, hv5, hs5⟩) | (go_at_call 47; refine (H3.out _ _ hs5 hv5).mono ?_; rintro e w6 ⟨vx, v6, rfl, hx, hv6, hs6⟩) | ((with_reducible show wpList _ _ _ _ _ _); refine wpl_b2s rfl 25 9 5 _ rfl Tryd.underlying25 Tryd.underlying5 Tryd.underlying9 (by exact hs6.old hx) ?_))
      have y3 := hs6.rcell (j := 2) (List.mem_cons_of_mem _ (List.mem_cons_of_mem _ (List.mem_cons_self ..))) rfl
      (refine wp_region_S (9) (fun W' => W'.cell? ⟨w.heap.size + 1, 2, none⟩ = some iv) (by kernel_rfl) ?_ (fun hHeld => ?_); (focus ((try dsimp only); go_keep)))
      (refine wpAnyS_takeL (i := 0) (v := ?_) rfl (by kernel_rfl) (by kernel_rfl) (by kernel_rfl) (by kernel_rfl) (by kernel_rfl) (by kernel_rfl) (fun _ _ _ h => h) (Or.inl ⟨by rfl, ?_⟩) hHeld ?_; rotate_left 1; (focus (intro w' hSw; (try dsimp only at hSw); go_simp; (try with_reducible rfl))); (try simp only [Act.put, List.setIfInBounds_toArray, List.set_cons_zero, List.set_cons_succ]))
      (refine wpAnyS_takeL (i := 1) (v := ?_) rfl (by kernel_rfl) (by kernel_rfl) (by kernel_rfl) (by kernel_rfl) (by kernel_rfl) (by kernel_rfl) (fun _ _ _ h => h) (Or.inl ⟨by rfl, ?_⟩) hHeld ?_; rotate_left 1; (focus (intro w' hSw; (try dsimp only at hSw); go_simp; (try with_reducible rfl))); (try simp only [Act.put, List.setIfInBounds_toArray, List.set_cons_zero, List.set_cons_succ]))
      (refine wpAnyS_takeL (i := 2) (v := ?_) rfl (by kernel_rfl) (by kernel_rfl) (by kernel_rfl) (by kernel_rfl) (by kernel_rfl) (by kernel_rfl) (fun _ _ _ h => h) (Or.inl ⟨by rfl, ?_⟩) hHeld ?_; rotate_left 1; (focus (intro w' hSw; (try dsimp only at hSw); go_simp; (try with_reducible rfl))); (try simp only [Act.put, List.setIfInBounds_toArray, List.set_cons_zero, List.set_cons_succ]))
      (refine wpAnyS_takeL (i := 3) (v := ?_) rfl (by kernel_rfl) (by kernel_rfl) (by kernel_rfl) (by kernel_rfl) (by kernel_rfl) (by kernel_rfl) (fun _ _ _ h => h) (Or.inl ⟨by rfl, ?_⟩) hHeld ?_; rotate_left 1; (focus (intro w' hSw; (try dsimp only at hSw); go_simp; (try with_reducible rfl))); (try simp only [Act.put, List.setIfInBounds_toArray, List.set_cons_zero, List.set_cons_succ]))
      (refine wpAnyS_takeL (i := 4) (v := ?_) rfl (by kernel_rfl) (by kernel_rfl) (by kernel_rfl) (by kernel_rfl) (by kernel_rfl) (by kernel_rfl) (fun _ _ _ h => h) (Or.inl ⟨by rfl, ?_⟩) hHeld ?_; rotate_left 1; (focus (intro w' hSw; (try dsimp only at hSw); go_simp; (try with_reducible rfl))); (try simp only [Act.put, List.setIfInBounds_toArray, List.set_cons_zero, List.set_cons_succ]))
      (refine wpAnyS_ready (rs := [5]) (by kernel_rfl) (by simp) ?_; refine AllS.consL rfl (fun K hK => ?_) AllS.nil)
      (go_simp; go_at_call 48; refine (H4.out _ _ hs6.drew hv6).mono ?_; rintro e w' ⟨v7, rfl, hv7, hs7⟩; go_wp2_with fail)
      (refine hK.out _ _ ?_ (fun hHeld => ?_); (focus ((try dsimp only); exact hs7.rcell (j := 2) (List.mem_cons_of_mem _ (List.mem_cons_of_mem _ (List.mem_cons_self ..))) rfl)); clear hK K; (try simp only [Act.put, List.setIfInBounds_toArray, List.set_cons_zero, List.set_cons_succ]))
      (refine wpAnyS_takeL (i := 6) (v := ?_) rfl (by kernel_rfl) (by kernel_rfl) (by kernel_rfl) (by kernel_rfl) (by kernel_rfl) (by kernel_rfl) (fun _ _ _ h => h) (Or.inl ⟨by rfl, ?_⟩) hHeld ?_; rotate_left 1; (focus (intro w' hSw; (try dsimp only at hSw); go_simp; (try with_reducible rfl))); (try simp only [Act.put, List.setIfInBounds_toArray, List.set_cons_zero, List.set_cons_succ]))
      (refine wpAnyS_ready (rs := [7]) (by kernel_rfl) (by simp) ?_; refine AllS.consL rfl (fun K hK => ?_) AllS.nil)
      go_simp
      (refine hK.out _ _ ?_ (fun hHeld => ?_); (focus ((try dsimp only); exact (hs7.alloc _).rcell (j := 2) (List.mem_cons_of_mem _ (List.mem_cons_of_mem _ (List.mem_cons_self ..))) rfl)); clear hK K; (try simp only [Act.put, List.setIfInBounds_toArray, List.set_cons_zero, List.set_cons_succ]))
      have HB := Mx.hid (show done.length ≤ 1000000001 by have := HL.out.2.1; omega)
      have hdl := HB.out
      (refine wpAnyS_ready (rs := [8]) (by kernel_rfl) (by simp) ?_; refine AllS.consL rfl (fun K hK => ?_) AllS.nil)
      refine step_app rfl _ _ 51 rfl Tryd.elItem (by exact (hs7.alloc _).swap) rfl (by exact Sl.three _ _ _ _ _) (by intro u hu; simp at hu; rcases hu with rfl | rfl | rfl <;> rfl) (by omega) ?_
      intro v8 w8 hs8 _
      obtain ⟨vo, vc, rfl, _⟩ := id hs8.sl0
      (refine hK.out _ _ ?_ (fun hHeld => ?_); (focus ((try dsimp only); exact hs8.rcell (j := 2) (List.mem_cons_of_mem _ (List.mem_cons_of_mem _ (List.mem_cons_self ..))) rfl)); clear hK K; (try simp only [Act.put, List.setIfInBounds_toArray, List.set_cons_zero, List.set_cons_succ]))
      (refine wpAnyS_seq (by rfl) (by kernel_rfl) ?_; simp only [List.drop_succ_cons, List.drop_zero])
      go_wp2_with ((with_reducible show wpList _ _ _ _ _ _); refine wpl_store1 rfl 51 _ _ rfl (hs8.perm (perm_or _ _ _ _)) (2) rfl (.slice vo (done.length + 1) vc) rfl rfl (by kernel_rfl) (by simp) rfl ?_; intro w9 hs9)
      case roundEnd => exact ⟨⟨i + 1, done ++ [((m : Int), str x, hsh)], b4, g4, v7, _, by go_num, by omega, (by show _ = _; rw [HE.out, show n - i = (n - (i + 1)) + 1 by omega, HS.out]; simp), (by obtain ⟨e1, e2⟩ := HL0.out; have e3 : b4.length ≤ b.length := L4.out.1; refine ⟨fun h => ?_, by simp; omega, by omega⟩; have e4 := LT.out h; simp; omega), hv7, (hs9.perm (perm_ro _ _ _ _)).swap.cast (by simp) (by simp [itms, itmRow]) |>.swap⟩, by simp [intOf]; omega⟩
end Go.Proofs.YtlfdnlomlbbicaaDoor

namespace Go.Mx
open Go Go.RowKit
theorem rdPars_stop {n : Nat} {s : Src} (h : s.2 = true ∨ n = 0) : rdPars n s = ([], s) := by
  cases n with
  | zero => rfl
  | succ n =>
    rcases h with h | h
    · rw [rdPars, if_pos h]
    · cases h
theorem rdPars_step {n : Nat} {b : List UInt8} {id : ByteArray} {s1 : Src} (h1 : hs (b, false) = (id, s1)) : rdPars (n + 1) (b, false) = (id :: (rdPars n s1).1, (rdPars n s1).2) := by
  rw [rdPars, if_neg (by simp), h1]
theorem on_256 (s : Src) : (on s).1 < 256 := by
  unfold on
  exact UInt8.toNat_lt _
theorem hs_lt (s : Src) (h : (hs s).2.2 = false) : (hs s).2.1.length + 1 ≤ s.1.length := by
  unfold hs at *
  simp only [] at *
  unfold tk at *
  split at h
  · cases h
  · rename_i h2
    rw [if_neg h2]
    simp
    omega
end Go.Mx
namespace Go.Proofs.YtlfdnlomlbbicaaDoor
open Go.RowKit Go.Mx

set_option maxRecDepth 100000 in
set_option maxHeartbeats 4000000 in
theorem read_commit (v : Value) (l : List UInt8) (w : World) (hv : Sl w 1 v l.length (bs l)) (hl : l.length ≤ 1000000000) :
    Calls Tryd.prog 31 #[.int .i64 3, v] w (ReadPost w (readO 3 l)) := by
  have HR : Hid (∀ ps q st s1 au s2 k s3 m s4, rdPars (on (Mx.hs (l, false)).2).1 (on (Mx.hs (l, false)).2).2 = (ps, q) → nm q = (st, s1) → nm s1 = (au, s2) → nm s2 = (k, s3) → tk k s3 = (m, s4) → readO 3 l = ⟨3, [], [], (Mx.hs (l, false)).1, ps, (st : Int), (au : Int), str m⟩) := fun ps q st s1 au s2 k s3 m s4 h h1 h2 h3 h4 => by
    unfold readO; rw [if_neg (by decide), if_neg (by decide), if_pos rfl]; simp only [h, h1, h2, h3, h4]
  have hle := Mx.hs_le (l, false)
  have HV0 := Mx.hid hv
  obtain ⟨ao, cap, rfl, h1, h2, _⟩ := hv.bytes
  have HZ := Mx.hid (((St.refl w).madeAt ([.int .i64 (0), .slice none 0 0, .slice none 0 0, .string (str []), .slice none 0 0, .int .i64 (0), .int .i64 (0), .string (str [])]).toArray 54 8 1 w.heap.size rfl (by simp [maxLen]) rfl).madeAt ([.int .i64 (0), .slice none 0 0, .slice none 0 0, .string (str []), .slice none 0 0, .int .i64 (0), .int .i64 (0), .string (str [])]).toArray 54 8 1 (w.heap.size + 1) rfl (by simp [maxLen]) (by rw [heap_size_alloc]))
  clear hv
  have HN := Mx.hid (fun wx g R (hs : St w wx ((⟨.slice (some ⟨g, 0, none⟩) 1 1, 96, 2, 1, [.slice ao l.length cap, .bool false]⟩ : Row) :: R) []) => srcHash_go l hs HV0.out)
  generalize Mx.hs (l, false) = t at *
  obtain ⟨tr, b0, g0⟩ := t
  have hle2 := on_le (b0, g0)
  have h256 := on_256 (b0, g0)
  have HO := Mx.hid (fun wx g v R (hs : St w wx ((⟨.slice (some ⟨g, 0, none⟩) 1 1, 96, 2, 1, [v, .bool g0]⟩ : Row) :: R) []) (hv : Sl w 1 v b0.length (bs b0)) => one_go b0 hs hv)
  simp only [] at *
  generalize on (b0, g0) = t at *
  obtain ⟨n, s0⟩ := t
  simp only [] at *
  have Hle := Mx.hid (hle2.trans hle)
  have hn : n ≤ 256 := by omega
  clear hle hle2 h256
  go_enter Tryd.func31, Tryd.ntmps31
  go_wp2_with (first | (((with_reducible show wpList _ _ _ _ _ _); refine wpl_storeA rfl 54 _ _ rfl Tryd.aObj HZ.out (0) rfl ([.int .i64 (3), .slice none 0 0, .slice none 0 0, .string (str []), .slice none 0 0, .int .i64 (0), .int .i64 (0), .string (str [])]) rfl (by rfl) (by simp) (by intro u hu; simp at hu; rcases hu with rfl | rfl | rfl | rfl | rfl | rfl | rfl | rfl <;> rfl) ?_; intro w1 hs1); clear HZ) | (((with_reducible show wpList _ _ _ _ _ _); refine wpl_box rfl 96 _ rfl hs1 ([.slice ao l.length cap, .bool false]) (by rfl) ?_; intro gx w2 hs2)) | (go_at_call 48; refine (HN.out _ _ _ hs2).mono ?_; rintro e w3 ⟨v3, rfl, hv3, hs3⟩) | ((with_reducible show wpList _ _ _ _ _ _); refine wpl_store1 rfl 9 _ _ rfl hs3.swap (3) rfl (.string tr) rfl rfl (by kernel_rfl) (by simp) rfl ?_; intro w4 hs4) | (go_at_call 46; refine (HO.out _ _ _ _ hs4.swap hv3).mono ?_; rintro e w5 ⟨v5, rfl, hv5, hs5⟩))
  have hs6 : St w w5 [(⟨.slice (some ⟨gx, 0, none⟩) 1 1, 96, 2, 1, [v5, .bool s0.2]⟩ : Row), (⟨.slice none 0 0, 9, 1, (([] : List ByteArray)).length, ss (([] : List ByteArray))⟩ : Row), (⟨.slice (some ⟨w.heap.size + 1, 0, none⟩) 1 1, 54, 8, 1, [.int .i64 (3), .slice none 0 0, .slice none 0 0, .string (tr), .slice none 0 0, .int .i64 (0), .int .i64 (0), .string (str [])]⟩ : Row), (⟨.slice (some ⟨w.heap.size, 0, none⟩) 1 1, 54, 8, 1, [.int .i64 (0), .slice none 0 0, .slice none 0 0, .string (str []), .slice none 0 0, .int .i64 (0), .int .i64 (0), .string (str [])]⟩ : Row)] [] := (hs5.addNil 9 1).swap
  clear hs5 hs4 hs3 hs2 hs1
  go_loopw [12] (fun y wr => ∃ (i : Nat) (done : List ByteArray) (b : List UInt8) (sh : Bool) (vs iv : Value), y = .int .i64 i ∧ i ≤ n ∧ done.length = i ∧ Hid (rdPars n s0 = (done ++ (rdPars (n - i) (b, sh)).1, (rdPars (n - i) (b, sh)).2)) ∧ b.length ≤ l.length ∧ Hid (Sl w 1 vs b.length (bs b)) ∧ St w wr [(⟨.slice (some ⟨gx, 0, none⟩) 1 1, 96, 2, 1, [vs, .bool sh]⟩ : Row), (⟨iv, 9, 1, (done).length, ss (done)⟩ : Row), (⟨.slice (some ⟨w.heap.size + 1, 0, none⟩) 1 1, 54, 8, 1, [.int .i64 (3), .slice none 0 0, .slice none 0 0, .string (tr), iv, .int .i64 (0), .int .i64 (0), .string (str [])]⟩ : Row), (⟨.slice (some ⟨w.heap.size, 0, none⟩) 1 1, 54, 8, 1, [.int .i64 (0), .slice none 0 0, .slice none 0 0, .string (str []), .slice none 0 0, .int .i64 (0), .int .i64 (0), .string (str [])]⟩ : Row)] []) (fun y _ => n - (intOf y).toNat)
  case atStart => exact ⟨0, [], s0.1, s0.2, v5, _, rfl, by omega, rfl, by simp [Hid], Hle.out.1, hv5, hs6⟩
  case round =>
    obtain ⟨i, done, b, sh, vs, iv, rfl, hi, hd, HE, hbl, HV, hs⟩ := hrel
    have y0 : wr.cell? ⟨gx, 1, none⟩ = some (.bool sh) := hs.cell (j := 1) rfl
    clear hs6
    by_cases hstop : sh = true ∨ i = n
    · have N1 := Mx.hid (fun wx v R (hs : St w wx ((⟨.slice (some ⟨gx, 0, none⟩) 1 1, 96, 2, 1, [v, .bool sh]⟩ : Row) :: R) []) (hv : Sl w 1 v b.length (bs b)) => srcNumber_go b hs hv (by omega))
      have e1 := nm_le (b, sh)
      have HE2 := Mx.hid (show rdPars n s0 = (done, (b, sh)) by rw [HE.out, rdPars_stop (hstop.imp id (by omega))]; simp)
      generalize hq1 : nm (b, sh) = q1 at *
      obtain ⟨st, b1, g1⟩ := q1
      have hb1 : b1.length ≤ 1000000000 := by have := e1.1; simp only [] at this; omega
      have N2 := Mx.hid (fun wx v R (hs : St w wx ((⟨.slice (some ⟨gx, 0, none⟩) 1 1, 96, 2, 1, [v, .bool g1]⟩ : Row) :: R) []) (hv : Sl w 1 v b1.length (bs b1)) => srcNumber_go b1 hs hv (by omega))
      have e2 := nm_le (b1, g1)
      generalize hq2 : nm (b1, g1) = q2 at *
      obtain ⟨au, b2, g2⟩ := q2
      have hb2 : b2.length ≤ 1000000000 := by have := e2.1; simp only [] at this; omega
      have N3 := Mx.hid (fun wx v R (hs : St w wx ((⟨.slice (some ⟨gx, 0, none⟩) 1 1, 96, 2, 1, [v, .bool g2]⟩ : Row) :: R) []) (hv : Sl w 1 v b2.length (bs b2)) => srcNumber_go b2 hs hv (by omega))
      have e3 := nm_max (b2, g2)
      generalize hq3 : nm (b2, g2) = q3 at *
      obtain ⟨k, b3, g3⟩ := q3
      have N4 := Mx.hid (fun wx v R (hs : St w wx ((⟨.slice (some ⟨gx, 0, none⟩) 1 1, 96, 2, 1, [v, .bool g3]⟩ : Row) :: R) []) (hv : Sl w 1 v b3.length (bs b3)) => take_go b3 k hs hv e3)
      generalize hq4 : tk k (b3, g3) = q4 at *
      obtain ⟨m, s4⟩ := q4
      have HF := Mx.hid (HR.out _ _ _ _ _ _ _ _ _ _ HE2.out hq1 hq2 hq3 hq4)
      simp only [] at *
      have hiv := hs.sl1
      obtain ⟨io, ic, rfl, _⟩ := id hiv
      clear hiv hq1 hq2 hq3 hq4 e1 e2 e3 hb1 hb2 HE2 HR
      by_cases hin : i = n
      · have q1 : decide ((i : Int) < (n : Int)) = false := decide_eq_false (by omega)
        have q2 : decide (i < n) = false := decide_eq_false (by omega)
        clear hin hstop hi hd
        go_wp2_with (first | ((with_reducible show wpList _ _ _ _ _ _); refine wpl_want rfl ?_) | (go_at_call 45; refine (N3.out _ _ _ (hs14.perm (R' := [_, _, _, _]) (List.perm_append_comm (l₁ := [_, _]) (l₂ := [_, _]))) hv12).mono ?_; rintro e w15 ⟨v15, rfl, hv15, hs15⟩) | (go_at_call 45; refine (N2.out _ _ _ hs11 hv11).mono ?_; rintro e w12 ⟨v12, rfl, hv12, hs12⟩) | (go_at_call 45; refine (N1.out _ _ _ hs HV.out).mono ?_; rintro e w11 ⟨v11, rfl, hv11, hs11⟩) | (go_at_call 47; refine (N4.out _ _ _ hs15 hv15).mono ?_; rintro e w16 ⟨vx, v16, rfl, hx, hv16, hs16⟩) | ((with_reducible show wpList _ _ _ _ _ _); refine wpl_store1 rfl 9 _ _ rfl (hs16.perm (R' := [_, _, _, _]) (List.perm_append_comm (l₁ := [_, _]) (l₂ := [_, _]))) (7) rfl (.string (str m)) rfl rfl (by kernel_rfl) (by simp) rfl ?_; intro w17 hs17) | ((with_reducible show wpList _ _ _ _ _ _); refine wpl_store1 rfl 3 _ _ rfl hs13 (6) rfl (.int .i64 (au : Int)) rfl rfl (by kernel_rfl) (by simp) rfl ?_; intro w14 hs14) | ((with_reducible show wpList _ _ _ _ _ _); refine wpl_store1 rfl 3 _ _ rfl (hs12.perm (R' := [_, _, _, _]) (List.perm_append_comm (l₁ := [_, _]) (l₂ := [_, _]))) (5) rfl (.int .i64 (st : Int)) rfl rfl (by kernel_rfl) (by simp) rfl ?_; intro w13 hs13) | ((with_reducible show wpList _ _ _ _ _ _); refine wpl_b2s rfl 25 9 5 _ rfl Tryd.underlying25 Tryd.underlying5 Tryd.underlying9 (by exact hs16.old hx) ?_) | ((with_reducible show wpList _ _ _ _ _ _); refine wpl_loadA rfl 54 _ rfl Tryd.aObj ((w.heap.size + 1)) (0) rfl ([.int .i64 (3), .slice none 0 0, .slice none 0 0, .string (tr), .slice io done.length ic, .int .i64 ((st : Int)), .int .i64 ((au : Int)), .string (str m)]) rfl (fun i u h => by rw [Nat.zero_add]; exact hs17.rcell (List.mem_cons_self ..) h) ?_) | (((with_reducible show wpList _ _ _ _ _ _); refine wpl_storeA rfl 54 _ _ rfl Tryd.aObj (hs17.perm (List.Perm.swap _ _ _)) (0) rfl ([.int .i64 (3), .slice none 0 0, .slice none 0 0, .string (tr), .slice io done.length ic, .int .i64 ((st : Int)), .int .i64 ((au : Int)), .string (str m)]) rfl (by rfl) (by simp) (by intro u hu; simp at hu; rcases hu with rfl | rfl | rfl | rfl | rfl | rfl | rfl | rfl <;> rfl) ?_; intro w9 hs9)))
        replace hs9 := hs9.cast rfl (show _ = [.int .i64 (3), .slice none 0 0, .slice none 0 0, .string (tr), .slice io done.length ic, .int .i64 ((st : Int)), .int .i64 ((au : Int)), .string (str m)] by simp)
        have hcw : ∀ i u, ([.int .i64 (3), .slice none 0 0, .slice none 0 0, .string (tr), .slice io done.length ic, .int .i64 ((st : Int)), .int .i64 ((au : Int)), .string (str m)])[i]? = some u → w9.cell? ⟨w.heap.size, i, none⟩ = some u := fun i u h => hs9.rcell (List.mem_cons_self ..) h
        refine bodyPost_ret (v := .agg ([.int .i64 (3), .slice none 0 0, .slice none 0 0, .string (tr), .slice io done.length ic, .int .i64 ((st : Int)), .int .i64 ((au : Int)), .string (str m)]).toArray) (results_cellA Tryd.results31 _ Tryd.aObj (g := w.heap.size) ([.int .i64 (3), .slice none 0 0, .slice none 0 0, .string (tr), .slice io done.length ic, .int .i64 ((st : Int)), .int .i64 ((au : Int)), .string (str m)]) ?_ rfl hcw) ?_ ⟨_, _, _, by rw [HF.out]; rfl, by rw [HF.out]; exact (hs9.perm (R' := [_, _, _, _]) (List.perm_append_comm (l₁ := [_, _, _]) (l₂ := [_]))).head.addNil _ _ |>.addNil _ _⟩
        · first | (simp; done) | simp [Act.put]
        · first | (simp; done) | simp [Act.put]
      · obtain rfl : sh = true := by rcases hstop with h | h; exact h; exact absurd h hin
        have hlt : i < n := by omega
        clear hin hstop hd
        go_wp2_with (first | ((with_reducible show wpList _ _ _ _ _ _); refine wpl_want rfl ?_) | (go_at_call 45; refine (N3.out _ _ _ (hs14.perm (R' := [_, _, _, _]) (List.perm_append_comm (l₁ := [_, _]) (l₂ := [_, _]))) hv12).mono ?_; rintro e w15 ⟨v15, rfl, hv15, hs15⟩) | (go_at_call 45; refine (N2.out _ _ _ hs11 hv11).mono ?_; rintro e w12 ⟨v12, rfl, hv12, hs12⟩) | (go_at_call 45; refine (N1.out _ _ _ hs HV.out).mono ?_; rintro e w11 ⟨v11, rfl, hv11, hs11⟩) | (go_at_call 47; refine (N4.out _ _ _ hs15 hv15).mono ?_; rintro e w16 ⟨vx, v16, rfl, hx, hv16, hs16⟩) | ((with_reducible show wpList _ _ _ _ _ _); refine wpl_store1 rfl 9 _ _ rfl (hs16.perm (R' := [_, _, _, _]) (List.perm_append_comm (l₁ := [_, _]) (l₂ := [_, _]))) (7) rfl (.string (str m)) rfl rfl (by kernel_rfl) (by simp) rfl ?_; intro w17 hs17) | ((with_reducible show wpList _ _ _ _ _ _); refine wpl_store1 rfl 3 _ _ rfl hs13 (6) rfl (.int .i64 (au : Int)) rfl rfl (by kernel_rfl) (by simp) rfl ?_; intro w14 hs14) | ((with_reducible show wpList _ _ _ _ _ _); refine wpl_store1 rfl 3 _ _ rfl (hs12.perm (R' := [_, _, _, _]) (List.perm_append_comm (l₁ := [_, _]) (l₂ := [_, _]))) (5) rfl (.int .i64 (st : Int)) rfl rfl (by kernel_rfl) (by simp) rfl ?_; intro w13 hs13) | ((with_reducible show wpList _ _ _ _ _ _); refine wpl_b2s rfl 25 9 5 _ rfl Tryd.underlying25 Tryd.underlying5 Tryd.underlying9 (by exact hs16.old hx) ?_) | ((with_reducible show wpList _ _ _ _ _ _); refine wpl_loadA rfl 54 _ rfl Tryd.aObj ((w.heap.size + 1)) (0) rfl ([.int .i64 (3), .slice none 0 0, .slice none 0 0, .string (tr), .slice io done.length ic, .int .i64 ((st : Int)), .int .i64 ((au : Int)), .string (str m)]) rfl (fun i u h => by rw [Nat.zero_add]; exact hs17.rcell (List.mem_cons_self ..) h) ?_) | (((with_reducible show wpList _ _ _ _ _ _); refine wpl_storeA rfl 54 _ _ rfl Tryd.aObj (hs17.perm (List.Perm.swap _ _ _)) (0) rfl ([.int .i64 (3), .slice none 0 0, .slice none 0 0, .string (tr), .slice io done.length ic, .int .i64 ((st : Int)), .int .i64 ((au : Int)), .string (str m)]) rfl (by rfl) (by simp) (by intro u hu; simp at hu; rcases hu with rfl | rfl | rfl | rfl | rfl | rfl | rfl | rfl <;> rfl) ?_; intro w9 hs9)))
        replace hs9 := hs9.cast rfl (show _ = [.int .i64 (3), .slice none 0 0, .slice none 0 0, .string (tr), .slice io done.length ic, .int .i64 ((st : Int)), .int .i64 ((au : Int)), .string (str m)] by simp)
        have hcw : ∀ i u, ([.int .i64 (3), .slice none 0 0, .slice none 0 0, .string (tr), .slice io done.length ic, .int .i64 ((st : Int)), .int .i64 ((au : Int)), .string (str m)])[i]? = some u → w9.cell? ⟨w.heap.size, i, none⟩ = some u := fun i u h => hs9.rcell (List.mem_cons_self ..) h
        refine bodyPost_ret (v := .agg ([.int .i64 (3), .slice none 0 0, .slice none 0 0, .string (tr), .slice io done.length ic, .int .i64 ((st : Int)), .int .i64 ((au : Int)), .string (str m)]).toArray) (results_cellA Tryd.results31 _ Tryd.aObj (g := w.heap.size) ([.int .i64 (3), .slice none 0 0, .slice none 0 0, .string (tr), .slice io done.length ic, .int .i64 ((st : Int)), .int .i64 ((au : Int)), .string (str m)]) ?_ rfl hcw) ?_ ⟨_, _, _, by rw [HF.out]; rfl, by rw [HF.out]; exact (hs9.perm (R' := [_, _, _, _]) (List.perm_append_comm (l₁ := [_, _, _]) (l₂ := [_]))).head.addNil _ _ |>.addNil _ _⟩
        · first | (simp; done) | simp [Act.put]
        · first | (simp; done) | simp [Act.put]
    · obtain rfl : sh = false := by cases sh with
        | false => rfl
        | true => exact absurd (.inl rfl) hstop
      have hlt : i < n := by rcases Nat.lt_or_ge i n with h | h; exact h; exact absurd (.inr (by omega)) hstop
      have l4 := Mx.hs_le (b, false)
      have H4 := Mx.hid (fun wx (v : Value) R (hs : St w wx ((⟨.slice (some ⟨gx, 0, none⟩) 1 1, 96, 2, 1, [v, .bool false]⟩ : Row) :: R) []) (hv : Sl w 1 v b.length (bs b)) => srcHash_go b hs hv)
      generalize hA4 : Mx.hs (b, false) = A4 at *
      obtain ⟨hsh, b4, g4⟩ := A4
      have HS := Mx.hid (rdPars_step (n := n - (i + 1)) hA4)
      simp only [] at *
      have L4 := Mx.hid l4
      have y2 : wr.cell? ⟨w.heap.size + 1, 4, none⟩ = some iv := hs.rcell (j := 4) (List.mem_cons_of_mem _ (List.mem_cons_of_mem _ (List.mem_cons_self ..))) rfl
      have Hd := Mx.hid hd
      clear l4 hstop hA4 HR
      go_wp2_with ((with_reducible show wpList _ _ _ _ _ _); refine wpl_want rfl ?_)
      (refine wp_region_S (6) (fun W' => W'.cell? ⟨w.heap.size + 1, 4, none⟩ = some iv) (by kernel_rfl) ?_ (fun hHeld => ?_); (focus ((try dsimp only); go_keep)))
      (refine wpAnyS_takeL (i := 0) (v := ?_) rfl (by kernel_rfl) (by kernel_rfl) (by kernel_rfl) (by kernel_rfl) (by kernel_rfl) (by kernel_rfl) (fun _ _ _ h => h) (Or.inl ⟨by rfl, ?_⟩) hHeld ?_; rotate_left 1; (focus (intro w' hSw; (try dsimp only at hSw); go_simp; (try with_reducible rfl))); (try simp only [Act.put, List.setIfInBounds_toArray, List.set_cons_zero, List.set_cons_succ]))
      (refine wpAnyS_takeL (i := 1) (v := ?_) rfl (by kernel_rfl) (by kernel_rfl) (by kernel_rfl) (by kernel_rfl) (by kernel_rfl) (by kernel_rfl) (fun _ _ _ h => h) (Or.inl ⟨by rfl, ?_⟩) hHeld ?_; rotate_left 1; (focus (intro w' hSw; (try dsimp only at hSw); go_simp; (try with_reducible rfl))); (try simp only [Act.put, List.setIfInBounds_toArray, List.set_cons_zero, List.set_cons_succ]))
      (refine wpAnyS_takeL (i := 2) (v := ?_) rfl (by kernel_rfl) (by kernel_rfl) (by kernel_rfl) (by kernel_rfl) (by kernel_rfl) (by kernel_rfl) (fun _ _ _ h => h) (Or.inl ⟨by rfl, ?_⟩) hHeld ?_; rotate_left 1; (focus (intro w' hSw; (try dsimp only at hSw); go_simp; (try with_reducible rfl))); (try simp only [Act.put, List.setIfInBounds_toArray, List.set_cons_zero, List.set_cons_succ]))
      (refine wpAnyS_ready (rs := [3]) (by kernel_rfl) (by simp) ?_; refine AllS.consL rfl (fun K hK => ?_) AllS.nil)
      (go_simp; go_at_call 48; refine (H4.out _ _ _ hs.drew HV.out).mono ?_; rintro e w' ⟨v7, rfl, hv7, hs7⟩; go_wp2_with fail)
      (refine hK.out _ _ ?_ (fun hHeld => ?_); (focus ((try dsimp only); exact hs7.rcell (j := 4) (List.mem_cons_of_mem _ (List.mem_cons_of_mem _ (List.mem_cons_self ..))) rfl)); clear hK K; (try simp only [Act.put, List.setIfInBounds_toArray, List.set_cons_zero, List.set_cons_succ]))
      (refine wpAnyS_ready (rs := [4]) (by kernel_rfl) (by simp) ?_; refine AllS.consL rfl (fun K hK => ?_) AllS.nil)
      go_simp
      (refine hK.out _ _ ?_ (fun hHeld => ?_); (focus ((try dsimp only); exact (hs7.alloc _).rcell (j := 4) (List.mem_cons_of_mem _ (List.mem_cons_of_mem _ (List.mem_cons_self ..))) rfl)); clear hK K; (try simp only [Act.put, List.setIfInBounds_toArray, List.set_cons_zero, List.set_cons_succ]))
      (refine wpAnyS_ready (rs := [5]) (by kernel_rfl) (by simp) ?_; refine AllS.consL rfl (fun K hK => ?_) AllS.nil)
      refine step_app rfl _ _ 52 rfl Tryd.elStr (by exact (hs7.alloc _).swap) rfl (by exact Sl.one _ _ _) (by intro u hu; simp at hu; subst hu; rfl) (by omega) ?_
      intro v8 w8 hs8 _
      obtain ⟨vo, vc, rfl, _⟩ := id hs8.sl0
      (refine hK.out _ _ ?_ (fun hHeld => ?_); (focus ((try dsimp only); exact hs8.rcell (j := 4) (List.mem_cons_of_mem _ (List.mem_cons_of_mem _ (List.mem_cons_self ..))) rfl)); clear hK K; (try simp only [Act.put, List.setIfInBounds_toArray, List.set_cons_zero, List.set_cons_succ]))
      (refine wpAnyS_seq (by rfl) (by kernel_rfl) ?_; simp only [List.drop_succ_cons, List.drop_zero])
      go_wp2_with ((with_reducible show wpList _ _ _ _ _ _); refine wpl_store1 rfl 52 _ _ rfl (hs8.perm (perm_or _ _ _ _)) (4) rfl (.slice vo (done.length + 1) vc) rfl rfl (by kernel_rfl) (by simp) rfl ?_; intro w9 hs9)
      case roundEnd => exact ⟨⟨i + 1, done ++ [hsh], b4, g4, v7, _, by go_num, by omega, by have := Hd.out; simp; omega, (by show _ = _; rw [HE.out, show n - i = (n - (i + 1)) + 1 by omega, HS.out]; simp), (by have e3 : b4.length ≤ b.length := L4.out.1; omega), hv7, (hs9.perm (perm_ro _ _ _ _)).swap.cast (by simp) (by simp [ss_app]; rfl) |>.swap⟩, by simp [intOf]; omega⟩
end Go.Proofs.YtlfdnlomlbbicaaDoor

namespace Go.Mx
open Go Go.RowKit
/-- Two results, the first of which lies in a variable of its own. -/
theorem results_cellA2 {P : Program} {fn : Func} {p q : Tmp} {ty : TypeId} (h : fn.results = #[.cell p ty, .tmp q]) (tmps : Array Value) {n : Nat} (A : Ag P ty n) {w : World} {g : Nat} (cs : List Value) (hp : tmps.getD p undef = .pointer (some ⟨g, 0, none⟩)) (hn : cs.length = n)
    (hc : ∀ i u, cs[i]? = some u → w.cell? ⟨g, i, none⟩ = some u) {u : Value} (hq : tmps.getD q undef = u) : (results fn tmps).run P w = .ok (.tuple #[.agg cs.toArray, u]) w := by
  have hp' : tmps[p]?.getD undef = .pointer (some ⟨g, 0, none⟩) := by simpa using hp
  have hq' : tmps[q]?.getD undef = u := by simpa using hq
  simp [results, h, hp', hq', asAddr, run_loadA A hn (g := g) (j := 0) (by simpa using hc)]
theorem perm_zr {α : Type} (d i p z r : α) : [d, i, p, z, r].Perm [z, d, i, p, r] :=
  (List.perm_append_comm (l₁ := [d, i, p]) (l₂ := [z])).append_right [r]
theorem hs_size (s : Src) : (hs s).1.size ≤ 64 := by
  unfold hs
  simp only [str_size, hexL_len]
  have : (tk 32 s).1.length ≤ 32 := by unfold tk; split <;> simp; omega
  omega
theorem rdItems_size : ∀ (n : Nat) (s : Src), ∀ x ∈ (rdItems n s).1, (x.2.1.size ≤ s.1.length ∧ x.2.2.size ≤ 64) ∧ 0 ≤ x.1 ∧ x.1 ≤ 255
  | 0, s, x, h => by cases h
  | n + 1, s, x, h => by
    rw [rdItems] at h
    split at h
    · cases h
    · simp only [List.mem_cons] at h
      have h1 := (on_le s).1
      have h2 := (nm_le (on s).2).1
      have h3 := (tk_le (nm (on s).2).1 (nm (on s).2).2).1
      have h4 := (hs_le (tk (nm (on s).2).1 (nm (on s).2).2).2).1
      rcases h with rfl | h
      · refine ⟨⟨?_, hs_size _⟩, by simp, ?_⟩
        · simp only [str_size]
          have := tk_x (nm (on s).2).1 (nm (on s).2).2
          omega
        · have := on_256 s
          simp only []
          omega
      · have := rdItems_size n _ x h
        refine ⟨⟨by omega, this.1.2⟩, this.2⟩
theorem rdPars_size : ∀ (n : Nat) (s : Src), ∀ x ∈ (rdPars n s).1, x.size ≤ 64
  | 0, s, x, h => by cases h
  | n + 1, s, x, h => by
    rw [rdPars] at h
    split at h
    · cases h
    · simp only [List.mem_cons] at h
      rcases h with rfl | h
      · exact hs_size _
      · exact rdPars_size n _ x h
theorem read_oz (kind : Int) (l : List UInt8) (hl : l.length ≤ 1000000000) : OZ (readO kind l) := by
  have hz : (str []).size ≤ 140737488351232 := by rw [str_size]; simp
  unfold readO
  split
  · exact ⟨hz, hz, by simp, by simp⟩
  · split
    · refine ⟨hz, hz, fun x hx => ?_, by simp⟩
      have h1 := rdItems_size _ _ x hx
      have h2 := (nm_le (l, false)).1
      simp only [] at h2
      exact ⟨by omega, by omega, by omega, by omega⟩
    · split
      · refine ⟨by have := hs_size (l, false); simp only []; omega, ?_, by simp, fun x hx => by have := rdPars_size _ _ x hx; omega⟩
        simp only [str_size]
        have a1 := (hs_le (l, false)).1
        have a2 := (on_le (hs (l, false)).2).1
        have a3 : ∀ n s, (rdPars n s).2.1.length ≤ s.1.length := fun n => by
          induction n with
          | zero => intro s; exact Nat.le_refl _
          | succ n ih =>
            intro s
            rw [rdPars]
            split
            · exact Nat.le_refl _
            · have := ih (hs s).2
              have := (hs_le s).1
              simp only []
              omega
        have a4 := a3 (on (hs (l, false)).2).1 (on (hs (l, false)).2).2
        have a5 := (nm_le (rdPars (on (hs (l, false)).2).1 (on (hs (l, false)).2).2).2).1
        have a6 := (nm_le (nm (rdPars (on (hs (l, false)).2).1 (on (hs (l, false)).2).2).2).2).1
        have a7 := (nm_le (nm (nm (rdPars (on (hs (l, false)).2).1 (on (hs (l, false)).2).2).2).2).2).1
        have a8 := tk_x (nm (nm (nm (rdPars (on (hs (l, false)).2).1 (on (hs (l, false)).2).2).2).2).2).1 (nm (nm (nm (rdPars (on (hs (l, false)).2).1 (on (hs (l, false)).2).2).2).2).2).2
        simp only [] at a1
        omega
      · exact ⟨hz, hz, by simp, by simp⟩
end Go.Mx
namespace Go.Proofs.YtlfdnlomlbbicaaDoor
open Go.RowKit Go.Mx

theorem read_any (v : Value) (l : List UInt8) (kind : Int) (w : World) (hv : Sl w 1 v l.length (bs l)) (hl : l.length ≤ 1000000000) :
    Calls Tryd.prog 31 #[.int .i64 kind, v] w (ReadPost w (readO kind l)) := by
  by_cases h1 : kind = 1
  · subst h1; exact read_blob v l w hv (by omega)
  · by_cases h2 : kind = 2
    · subst h2; exact read_tree v l w hv hl
    · by_cases h3 : kind = 3
      · subst h3; exact read_commit v l w hv hl
      · exact read_other v l kind w hv h1 h2 h3

theorem bequal_any (v v' : Value) (l l' : List UInt8) (w : World) (hv : Sl w 1 v l.length (bs l)) (hv' : Sl w 1 v' l'.length (bs l')) :
    Calls Tryd.prog 29 #[v, v'] w fun e w' => e = .returned (.bool (decide (l = l'))) ∧ w = w' := by
  go_enter Tryd.func29, Tryd.ntmps29
  go_wp2_with (first | ((with_reducible show wpList _ _ _ _ _ _); refine wpl_b2s rfl 25 9 5 _ rfl Tryd.underlying25 Tryd.underlying5 Tryd.underlying9 (by exact hv) ?_) | ((with_reducible show wpList _ _ _ _ _ _); refine wpl_b2s rfl 25 9 5 _ rfl Tryd.underlying25 Tryd.underlying5 Tryd.underlying9 (by exact hv') ?_))
  go_ret
  exact ⟨by rw [← str_beq]; rfl, rfl⟩

def DecPost (w : World) (b : List UInt8) (e : Ending) (w' : World) : Prop :=
  ∃ dv iv pv, e = .returned (.tuple #[OV dv iv pv (decO b).1, .int .i64 (decO b).2]) ∧ St w w' (obR dv iv pv (decO b).1) []

set_option maxRecDepth 100000 in
set_option maxHeartbeats 2000000 in
theorem decode_nil (v : Value) (w : World) (hv : Sl w 1 v 0 (bs [])) :
    Calls Tryd.prog 21 #[v] w (DecPost w []) := by
  obtain ⟨ao, cap, rfl, h1, h2, _⟩ := hv
  have HZ := Mx.hid ((St.refl w).madeAt ([.int .i64 (0), .slice none 0 0, .slice none 0 0, .string (str []), .slice none 0 0, .int .i64 (0), .int .i64 (0), .string (str [])]).toArray 54 8 1 w.heap.size rfl (by simp [maxLen]) rfl)
  go_enter Tryd.func21, Tryd.ntmps21
  go_wp2_with ((with_reducible show wpList _ _ _ _ _ _); refine wpl_storeA rfl 54 _ _ rfl Tryd.aObj HZ.out (0) rfl ([.int .i64 (0), .slice none 0 0, .slice none 0 0, .string (str []), .slice none 0 0, .int .i64 (0), .int .i64 (0), .string (str [])]) rfl (by rfl) (by simp) (by intro u hu; simp at hu; rcases hu with rfl | rfl | rfl | rfl | rfl | rfl | rfl | rfl <;> rfl) ?_; intro w9 hs9)
  replace hs9 := hs9.cast rfl (show _ = [.int .i64 (0), .slice none 0 0, .slice none 0 0, .string (str []), .slice none 0 0, .int .i64 (0), .int .i64 (0), .string (str [])] by simp)
  have hcw : ∀ i u, ([.int .i64 (0), .slice none 0 0, .slice none 0 0, .string (str []), .slice none 0 0, .int .i64 (0), .int .i64 (0), .string (str [])])[i]? = some u → w9.cell? ⟨w.heap.size, i, none⟩ = some u := fun i u h => hs9.rcell (List.mem_cons_self ..) h
  refine bodyPost_ret (v := .tuple #[.agg ([.int .i64 (0), .slice none 0 0, .slice none 0 0, .string (str []), .slice none 0 0, .int .i64 (0), .int .i64 (0), .string (str [])]).toArray, .int .i64 2]) (results_cellA2 Tryd.results21 _ Tryd.aObj (g := w.heap.size) ([.int .i64 (0), .slice none 0 0, .slice none 0 0, .string (str []), .slice none 0 0, .int .i64 (0), .int .i64 (0), .string (str [])]) ?_ rfl hcw ?_) ?_ ⟨_, _, _, rfl, ((hs9.bare.addNil _ _).addNil _ _).addNil _ _⟩
  · first | (simp; done) | simp [Act.put]
  · first | (simp; done) | simp [Act.put]
  · first | (simp; done) | simp [Act.put]

/-- A slice that reads as one byte and more. -/
theorem dec_open {w : World} {v : Value} {k : UInt8} {l : List UInt8} (hl : Sl w 1 v (k :: l).length (bs (k :: l))) :
    ∃ (blk off cap : Nat) (xo : Option Addr) (xc : Nat), v = .slice (some ⟨blk, off, none⟩) (l.length + 1) cap ∧ l.length + 1 ≤ cap ∧ cap ≤ maxLen ∧ w.cell? ⟨blk, off, none⟩ = some (.int .u8 (k.toNat : Int)) ∧
      (∀ w', (Instr.sliceAt 25 v (some (.int .i64 1)) none none).run Tryd.prog w' = .ok (.slice xo l.length xc) w') ∧ Sl w 1 (.slice xo l.length xc) l.length (bs l) := by
  obtain ⟨x, p1, q1⟩ := hl.cutRun Tryd.elU8 (some (.int .i64 ((1 : Nat) : Int))) none 1 (k :: l).length (.inr ⟨.i64, rfl⟩) (.inl ⟨rfl, rfl⟩) (by simp) (Nat.le_refl _)
  have hx := Sl.cutB (q1 _ hl) (Nat.le_refl _) (by simp)
  rw [List.take_length] at hx
  obtain ⟨xo, xc, rfl, _⟩ := id hx
  obtain ⟨ao, cap, rfl, h1, h2, _, hc⟩ := hl.bytes
  obtain ⟨blk, off, rfl, hcell⟩ := hc (by simp)
  exact ⟨blk, off, cap, xo, xc, rfl, h1, h2, hcell 0 (by simp), p1, hx⟩

/-- What Encode leaves, seen from an object in memory. -/
theorem enc_from {w w' : World} {R : List Row} {dv iv pv : Value} {o : Ob} (hs : St w w' (obR dv iv pv o ++ R) []) (hz : OZ o) : Calls Tryd.prog 32 #[OV dv iv pv o] w' (EncPost w' o) :=
  have h : St w w' (⟨dv, 5, 1, o.data.length, bs o.data⟩ :: ⟨iv, 99, 3, o.items.length, itms o.items⟩ :: ⟨pv, 9, 1, o.parents.length, ss o.parents⟩ :: R) [] := hs
  encode_any dv iv pv o w' ⟨h.sl0, h.sl1, h.sl2⟩ hz

set_option maxRecDepth 100000 in
set_option maxHeartbeats 4000000 in
theorem decode_cons (v : Value) (k : UInt8) (r : List UInt8) (w : World) (hv : Sl w 1 v (k :: r).length (bs (k :: r))) (hl : (k :: r).length ≤ 1000000000) :
    Calls Tryd.prog 21 #[v] w (DecPost w (k :: r)) := by
  have HQ : Hid (∀ o, readO (k.toNat : Int) r = o → decO (k :: r) = if mayB o = true ∧ encL o = k :: r then (o, 0) else (noOb, 4)) := fun o h => by subst h; rfl
  have hrl : r.length ≤ 1000000000 := by simp at hl; omega
  have hoz := read_oz (k.toNat : Int) r hrl
  obtain ⟨blk, off, cap, xo, xc, rfl, h1, h2, c0, p1, hx⟩ := dec_open hv
  have HX := Mx.hid hx
  have HR := Mx.hid (fun wx (h : St w wx [] []) => read_any _ r (k.toNat : Int) wx (h.old hx) hrl)
  have HV := Mx.hid hv
  have HZ := Mx.hid ((St.refl w).madeAt ([.int .i64 (0), .slice none 0 0, .slice none 0 0, .string (str []), .slice none 0 0, .int .i64 (0), .int .i64 (0), .string (str [])]).toArray 54 8 1 w.heap.size rfl (by simp [maxLen]) rfl)
  have hk := u8_lt k
  have hw64 : wrap64 (k.toNat : Int) = (k.toNat : Int) := by unfold wrap64; omega
  unfold maxLen at h2
  have HW : Hid (∀ w' R Q, St w w' R Q → w'.cell? ⟨blk, off, none⟩ = some (.int .u8 (k.toNat : Int))) := fun w' R Q h => h.keep c0
  have hww : IntKind.i64.wrap (k.toNat : Int) = (k.toNat : Int) := IntWalk.i64_in _ (by omega)
  generalize readO (k.toNat : Int) r = o at *
  have HQ2 := Mx.hid (HQ.out o rfl)
  clear hv hx HQ hl hrl
  generalize r.length = rl at *
  generalize (k.toNat : Int) = kk at *
  have HEN := Mx.hid (fun wx dv iv pv R (hs : St w wx (obR dv iv pv o ++ R) []) => enc_from hs hoz)
  obtain ⟨okind, odata, oitems, otree, oparents, ostamp, oauthor, omsg⟩ := o
  unfold EncPost at HEN
  cases hm : mayB ⟨okind, odata, oitems, otree, oparents, ostamp, oauthor, omsg⟩ with
  | false =>
    rw [hm] at HEN HQ2
    have HF := Mx.hid (show decO (k :: r) = (noOb, 4) by rw [HQ2.out, if_neg (by simp)])
    clear hoz HQ2 hm
    go_enter Tryd.func21, Tryd.ntmps21
    go_wp2_with fail
    (refine wp_region_S (8) (fun W' => W'.cell? ⟨blk, off, none⟩ = some (.int .u8 kk)) (by kernel_rfl) ?_ (fun hHeld => ?_); (focus ((try dsimp only); exact HW.out _ _ _ HZ.out.drew)))
    (refine wpAnyS_takeL (i := 0) (v := ?_) rfl (by kernel_rfl) (by kernel_rfl) (by kernel_rfl) (by kernel_rfl) (by kernel_rfl) (by kernel_rfl) (fun _ _ _ h => h) (Or.inl ⟨by rfl, ?_⟩) hHeld ?_; rotate_left 1; (focus (intro w' hSw; (try dsimp only at hSw); go_simp; (try with_reducible rfl))); (try simp only [Act.put, List.setIfInBounds_toArray, List.set_cons_zero, List.set_cons_succ]))
    (refine wpAnyS_takeW (i := 1) (v := ?_) rfl (by kernel_rfl) (by kernel_rfl) (by kernel_rfl) (by kernel_rfl) (fun _ _ _ h => h) (Or.inl ⟨by rfl, ?_⟩) hHeld ?_; rotate_left 1; (focus (intro w' hSw; go_simp; (try with_reducible rfl))); (try simp only [Act.put, List.setIfInBounds_toArray, List.set_cons_zero, List.set_cons_succ]))
    (refine wpAnyS_takeL (i := 2) (v := ?_) rfl (by kernel_rfl) (by kernel_rfl) (by kernel_rfl) (by kernel_rfl) (by kernel_rfl) (by kernel_rfl) (fun _ _ _ h => h) (Or.inl ⟨by rfl, ?_⟩) hHeld ?_; rotate_left 1; (focus (intro w' hSw; (try dsimp only at hSw); go_simp; (try with_reducible rfl))); (try simp only [Act.put, List.setIfInBounds_toArray, List.set_cons_zero, List.set_cons_succ]))
    (refine wpAnyS_takeW (i := 3) (v := ?_) rfl (by kernel_rfl) (by kernel_rfl) (by kernel_rfl) (by kernel_rfl) (fun _ _ _ h => h) (Or.inl ⟨by rfl, ?_⟩) hHeld ?_; rotate_left 1; (focus (intro w' hSw; go_simp; (try with_reducible rfl))); (try simp only [Act.put, List.setIfInBounds_toArray, List.set_cons_zero, List.set_cons_succ]))
    (refine wpAnyS_takeW (i := 4) (v := ?_) rfl (by kernel_rfl) (by kernel_rfl) (by kernel_rfl) (by kernel_rfl) (fun _ _ _ h => h) (Or.inl ⟨by rfl, ?_⟩) hHeld ?_; rotate_left 1; (focus (intro w' hSw; go_simp; (try with_reducible rfl))); (try simp only [Act.put, List.setIfInBounds_toArray, List.set_cons_zero, List.set_cons_succ]))
    (refine wpAnyS_takeW (i := 5) (v := ?_) rfl (by kernel_rfl) (by kernel_rfl) (by kernel_rfl) (by kernel_rfl) (fun _ _ _ h => h) (Or.inl ⟨by rfl, ?_⟩) hHeld ?_; rotate_left 1; (focus (intro w' hSw; go_simp; (try with_reducible rfl))); (try simp only [Act.put, List.setIfInBounds_toArray, List.set_cons_zero, List.set_cons_succ]))
    refine wpAnyS_ready (rs := [6, 7]) (by kernel_rfl) (by simp) ?_
    refine AllS.consL rfl (fun K hK => ?_) (AllS.consL rfl (fun K hK => ?_) AllS.nil)
    · (go_simp; go_at_call 31; refine (HR.out _ HZ.out.drew.bare).mono ?_; rintro e w3 ⟨dv, iv, pv, rfl, hk3⟩; obtain ⟨da, dc, rfl, _⟩ := id hk3.sl0; obtain ⟨ia, ic, rfl, _⟩ := id hk3.sl1; obtain ⟨pa, pc, rfl, _⟩ := id hk3.sl2; have hs3 := HZ.out.drew.call hk3; go_wp2_with fail)
      (refine hK.out _ _ ?_ (fun hHeld => ?_); (focus ((try dsimp only); exact HW.out _ _ _ hs3)); clear hK K; (try simp only [Act.put, List.setIfInBounds_toArray, List.set_cons_zero, List.set_cons_succ]))
      (refine wpAnyS_ready (rs := [7]) (by kernel_rfl) (by simp) ?_; refine AllS.consL rfl (fun K hK => ?_) AllS.nil)
      go_simp
      have hs4 := hs3.madeAt ([.int .i64 (0), .slice none 0 0, .slice none 0 0, .string (str []), .slice none 0 0, .int .i64 (0), .int .i64 (0), .string (str [])]).toArray 54 8 1 w3.heap.size rfl (by simp [maxLen]) rfl
      (refine hK.out _ _ ?_ (fun hHeld => ?_); (focus ((try dsimp only); exact HW.out _ _ _ hs4)); clear hK K; (try simp only [Act.put, List.setIfInBounds_toArray, List.set_cons_zero, List.set_cons_succ]))
      (refine wpAnyS_seq (by rfl) (by kernel_rfl) ?_; simp only [List.drop_succ_cons, List.drop_zero])
      generalize w3.heap.size = gz at *
      go_wp2_with (first | ((with_reducible show wpList _ _ _ _ _ _); refine wpl_want rfl ?_) | (((with_reducible show wpList _ _ _ _ _ _); refine wpl_storeA rfl 54 _ _ rfl Tryd.aObj hs4 (0) rfl ([.int .i64 okind, .slice da odata.length dc, .slice ia oitems.length ic, .string otree, .slice pa oparents.length pc, .int .i64 ostamp, .int .i64 oauthor, .string omsg]) rfl (by rfl) (by simp) (by intro u hu; simp at hu; rcases hu with rfl | rfl | rfl | rfl | rfl | rfl | rfl | rfl <;> rfl) ?_; intro w5 hs5); replace hs5 := hs5.cast rfl (show _ = [.int .i64 okind, .slice da odata.length dc, .slice ia oitems.length ic, .string otree, .slice pa oparents.length pc, .int .i64 ostamp, .int .i64 oauthor, .string omsg] by simp)) | ((with_reducible show wpList _ _ _ _ _ _); refine wpl_loadA rfl 54 _ rfl Tryd.aObj (gz) (0) rfl ([.int .i64 okind, .slice da odata.length dc, .slice ia oitems.length ic, .string otree, .slice pa oparents.length pc, .int .i64 ostamp, .int .i64 oauthor, .string omsg]) rfl (fun i u h => by rw [Nat.zero_add]; exact hs5.rcell (List.mem_cons_self ..) h) ?_) | (go_at_call 32; refine (HEN.out _ _ _ _ _ hs5.tail).mono ?_; rintro e w6 ⟨rfl, hk6⟩; have hs6 := hs5.call0 hk6) | ((with_reducible show wpList _ _ _ _ _ _); refine wpl_storeA rfl 54 _ _ rfl Tryd.aObj (hs6.perm (R' := [_, _, _, _, _]) (List.perm_append_comm (l₁ := [_, _, _, _]) (l₂ := [_]))) (0) rfl ([.int .i64 (0), .slice none 0 0, .slice none 0 0, .string (str []), .slice none 0 0, .int .i64 (0), .int .i64 (0), .string (str [])]) rfl (by rfl) (by simp) (by intro u hu; simp at hu; rcases hu with rfl | rfl | rfl | rfl | rfl | rfl | rfl | rfl <;> rfl) ?_; intro w9 hs9))
      replace hs9 := hs9.cast rfl (show _ = [.int .i64 (0), .slice none 0 0, .slice none 0 0, .string (str []), .slice none 0 0, .int .i64 (0), .int .i64 (0), .string (str [])] by simp)
      have hcw : ∀ i u, ([.int .i64 (0), .slice none 0 0, .slice none 0 0, .string (str []), .slice none 0 0, .int .i64 (0), .int .i64 (0), .string (str [])])[i]? = some u → w9.cell? ⟨w.heap.size, i, none⟩ = some u := fun i u h => hs9.rcell (List.mem_cons_self ..) h
      refine bodyPost_ret (v := .tuple #[.agg ([.int .i64 (0), .slice none 0 0, .slice none 0 0, .string (str []), .slice none 0 0, .int .i64 (0), .int .i64 (0), .string (str [])]).toArray, .int .i64 4]) (results_cellA2 Tryd.results21 _ Tryd.aObj (g := w.heap.size) ([.int .i64 (0), .slice none 0 0, .slice none 0 0, .string (str []), .slice none 0 0, .int .i64 (0), .int .i64 (0), .string (str [])]) ?_ rfl hcw ?_) ?_ ⟨_, _, _, by rw [HF.out]; rfl, by rw [HF.out]; exact ((hs9.bare.addNil _ _).addNil _ _).addNil _ _⟩
      · first | (simp; done) | simp [Act.put]
      · first | (simp; done) | simp [Act.put]
      · first | (simp; done) | simp [Act.put]
    · go_simp
      have HZ2 := Mx.hid (HZ.out.madeAt ([.int .i64 (0), .slice none 0 0, .slice none 0 0, .string (str []), .slice none 0 0, .int .i64 (0), .int .i64 (0), .string (str [])]).toArray 54 8 1 (w.heap.size + 1) rfl (by simp [maxLen]) (by rw [heap_size_alloc])).drew
      (refine hK.out _ _ ?_ (fun hHeld => ?_); (focus ((try dsimp only); exact HW.out _ _ _ HZ2.out)); clear hK K; (try simp only [Act.put, List.setIfInBounds_toArray, List.set_cons_zero, List.set_cons_succ]))
      (refine wpAnyS_ready (rs := [6]) (by kernel_rfl) (by simp) ?_; refine AllS.consL rfl (fun K hK => ?_) AllS.nil)
      (go_simp; go_at_call 31; refine (HR.out _ HZ2.out.bare).mono ?_; rintro e w3 ⟨dv, iv, pv, rfl, hk3⟩; obtain ⟨da, dc, rfl, _⟩ := id hk3.sl0; obtain ⟨ia, ic, rfl, _⟩ := id hk3.sl1; obtain ⟨pa, pc, rfl, _⟩ := id hk3.sl2; have hs3 := HZ2.out.call hk3; go_wp2_with fail)
      replace hs3 := hs3.perm (perm_zr _ _ _ _ _)
      have hs4 := hs3
      (refine hK.out _ _ ?_ (fun hHeld => ?_); (focus ((try dsimp only); exact HW.out _ _ _ hs3)); clear hK K; (try simp only [Act.put, List.setIfInBounds_toArray, List.set_cons_zero, List.set_cons_succ]))
      (refine wpAnyS_seq (by rfl) (by kernel_rfl) ?_; simp only [List.drop_succ_cons, List.drop_zero])
      clear hs3
      generalize w.heap.size + 1 = gz at hs4 ⊢
      go_wp2_with (first | ((with_reducible show wpList _ _ _ _ _ _); refine wpl_want rfl ?_) | (((with_reducible show wpList _ _ _ _ _ _); refine wpl_storeA rfl 54 _ _ rfl Tryd.aObj hs4 (0) rfl ([.int .i64 okind, .slice da odata.length dc, .slice ia oitems.length ic, .string otree, .slice pa oparents.length pc, .int .i64 ostamp, .int .i64 oauthor, .string omsg]) rfl (by rfl) (by simp) (by intro u hu; simp at hu; rcases hu with rfl | rfl | rfl | rfl | rfl | rfl | rfl | rfl <;> rfl) ?_; intro w5 hs5); replace hs5 := hs5.cast rfl (show _ = [.int .i64 okind, .slice da odata.length dc, .slice ia oitems.length ic, .string otree, .slice pa oparents.length pc, .int .i64 ostamp, .int .i64 oauthor, .string omsg] by simp)) | ((with_reducible show wpList _ _ _ _ _ _); refine wpl_loadA rfl 54 _ rfl Tryd.aObj (gz) (0) rfl ([.int .i64 okind, .slice da odata.length dc, .slice ia oitems.length ic, .string otree, .slice pa oparents.length pc, .int .i64 ostamp, .int .i64 oauthor, .string omsg]) rfl (fun i u h => by rw [Nat.zero_add]; exact hs5.rcell (List.mem_cons_self ..) h) ?_) | (go_at_call 32; refine (HEN.out _ _ _ _ _ hs5.tail).mono ?_; rintro e w6 ⟨rfl, hk6⟩; have hs6 := hs5.call0 hk6) | ((with_reducible show wpList _ _ _ _ _ _); refine wpl_storeA rfl 54 _ _ rfl Tryd.aObj (hs6.perm (R' := [_, _, _, _, _]) (List.perm_append_comm (l₁ := [_, _, _, _]) (l₂ := [_]))) (0) rfl ([.int .i64 (0), .slice none 0 0, .slice none 0 0, .string (str []), .slice none 0 0, .int .i64 (0), .int .i64 (0), .string (str [])]) rfl (by rfl) (by simp) (by intro u hu; simp at hu; rcases hu with rfl | rfl | rfl | rfl | rfl | rfl | rfl | rfl <;> rfl) ?_; intro w9 hs9))
      replace hs9 := hs9.cast rfl (show _ = [.int .i64 (0), .slice none 0 0, .slice none 0 0, .string (str []), .slice none 0 0, .int .i64 (0), .int .i64 (0), .string (str [])] by simp)
      have hcw : ∀ i u, ([.int .i64 (0), .slice none 0 0, .slice none 0 0, .string (str []), .slice none 0 0, .int .i64 (0), .int .i64 (0), .string (str [])])[i]? = some u → w9.cell? ⟨w.heap.size, i, none⟩ = some u := fun i u h => hs9.rcell (List.mem_cons_self ..) h
      refine bodyPost_ret (v := .tuple #[.agg ([.int .i64 (0), .slice none 0 0, .slice none 0 0, .string (str []), .slice none 0 0, .int .i64 (0), .int .i64 (0), .string (str [])]).toArray, .int .i64 4]) (results_cellA2 Tryd.results21 _ Tryd.aObj (g := w.heap.size) ([.int .i64 (0), .slice none 0 0, .slice none 0 0, .string (str []), .slice none 0 0, .int .i64 (0), .int .i64 (0), .string (str [])]) ?_ rfl hcw ?_) ?_ ⟨_, _, _, by rw [HF.out]; rfl, by rw [HF.out]; exact ((hs9.bare.addNil _ _).addNil _ _).addNil _ _⟩
      · first | (simp; done) | simp [Act.put]
      · first | (simp; done) | simp [Act.put]
      · first | (simp; done) | simp [Act.put]
  | true =>
    rw [hm] at HEN HQ2
    by_cases hb : encL ⟨okind, odata, oitems, otree, oparents, ostamp, oauthor, omsg⟩ = k :: r
    · have HF := Mx.hid (show decO (k :: r) = (⟨okind, odata, oitems, otree, oparents, ostamp, oauthor, omsg⟩, 0) by rw [HQ2.out, if_pos ⟨rfl, hb⟩])
      have hbd := decide_eq_true hb
      clear hoz HQ2 hm
      generalize hEL : encL ⟨okind, odata, oitems, otree, oparents, ostamp, oauthor, omsg⟩ = EL at *
      have HEL := Mx.hid hEL
      have HB := Mx.hid hb
      clear hEL hb
      go_enter Tryd.func21, Tryd.ntmps21
      go_wp2_with fail
      (refine wp_region_S (8) (fun W' => W'.cell? ⟨blk, off, none⟩ = some (.int .u8 kk)) (by kernel_rfl) ?_ (fun hHeld => ?_); (focus ((try dsimp only); exact HW.out _ _ _ HZ.out.drew)))
      (refine wpAnyS_takeL (i := 0) (v := ?_) rfl (by kernel_rfl) (by kernel_rfl) (by kernel_rfl) (by kernel_rfl) (by kernel_rfl) (by kernel_rfl) (fun _ _ _ h => h) (Or.inl ⟨by rfl, ?_⟩) hHeld ?_; rotate_left 1; (focus (intro w' hSw; (try dsimp only at hSw); go_simp; (try with_reducible rfl))); (try simp only [Act.put, List.setIfInBounds_toArray, List.set_cons_zero, List.set_cons_succ]))
      (refine wpAnyS_takeW (i := 1) (v := ?_) rfl (by kernel_rfl) (by kernel_rfl) (by kernel_rfl) (by kernel_rfl) (fun _ _ _ h => h) (Or.inl ⟨by rfl, ?_⟩) hHeld ?_; rotate_left 1; (focus (intro w' hSw; go_simp; (try with_reducible rfl))); (try simp only [Act.put, List.setIfInBounds_toArray, List.set_cons_zero, List.set_cons_succ]))
      (refine wpAnyS_takeL (i := 2) (v := ?_) rfl (by kernel_rfl) (by kernel_rfl) (by kernel_rfl) (by kernel_rfl) (by kernel_rfl) (by kernel_rfl) (fun _ _ _ h => h) (Or.inl ⟨by rfl, ?_⟩) hHeld ?_; rotate_left 1; (focus (intro w' hSw; (try dsimp only at hSw); go_simp; (try with_reducible rfl))); (try simp only [Act.put, List.setIfInBounds_toArray, List.set_cons_zero, List.set_cons_succ]))
      (refine wpAnyS_takeW (i := 3) (v := ?_) rfl (by kernel_rfl) (by kernel_rfl) (by kernel_rfl) (by kernel_rfl) (fun _ _ _ h => h) (Or.inl ⟨by rfl, ?_⟩) hHeld ?_; rotate_left 1; (focus (intro w' hSw; go_simp; (try with_reducible rfl))); (try simp only [Act.put, List.setIfInBounds_toArray, List.set_cons_zero, List.set_cons_succ]))
      (refine wpAnyS_takeW (i := 4) (v := ?_) rfl (by kernel_rfl) (by kernel_rfl) (by kernel_rfl) (by kernel_rfl) (fun _ _ _ h => h) (Or.inl ⟨by rfl, ?_⟩) hHeld ?_; rotate_left 1; (focus (intro w' hSw; go_simp; (try with_reducible rfl))); (try simp only [Act.put, List.setIfInBounds_toArray, List.set_cons_zero, List.set_cons_succ]))
      (refine wpAnyS_takeW (i := 5) (v := ?_) rfl (by kernel_rfl) (by kernel_rfl) (by kernel_rfl) (by kernel_rfl) (fun _ _ _ h => h) (Or.inl ⟨by rfl, ?_⟩) hHeld ?_; rotate_left 1; (focus (intro w' hSw; go_simp; (try with_reducible rfl))); (try simp only [Act.put, List.setIfInBounds_toArray, List.set_cons_zero, List.set_cons_succ]))
      refine wpAnyS_ready (rs := [6, 7]) (by kernel_rfl) (by simp) ?_
      refine AllS.consL rfl (fun K hK => ?_) (AllS.consL rfl (fun K hK => ?_) AllS.nil)
      · (go_simp; go_at_call 31; refine (HR.out _ HZ.out.drew.bare).mono ?_; rintro e w3 ⟨dv, iv, pv, rfl, hk3⟩; obtain ⟨da, dc, rfl, _⟩ := id hk3.sl0; obtain ⟨ia, ic, rfl, _⟩ := id hk3.sl1; obtain ⟨pa, pc, rfl, _⟩ := id hk3.sl2; have hs3 := HZ.out.drew.call hk3; go_wp2_with fail)
        (refine hK.out _ _ ?_ (fun hHeld => ?_); (focus ((try dsimp only); exact HW.out _ _ _ hs3)); clear hK K; (try simp only [Act.put, List.setIfInBounds_toArray, List.set_cons_zero, List.set_cons_succ]))
        (refine wpAnyS_ready (rs := [7]) (by kernel_rfl) (by simp) ?_; refine AllS.consL rfl (fun K hK => ?_) AllS.nil)
        go_simp
        have hs4 := hs3.madeAt ([.int .i64 (0), .slice none 0 0, .slice none 0 0, .string (str []), .slice none 0 0, .int .i64 (0), .int .i64 (0), .string (str [])]).toArray 54 8 1 w3.heap.size rfl (by simp [maxLen]) rfl
        (refine hK.out _ _ ?_ (fun hHeld => ?_); (focus ((try dsimp only); exact HW.out _ _ _ hs4)); clear hK K; (try simp only [Act.put, List.setIfInBounds_toArray, List.set_cons_zero, List.set_cons_succ]))
        (refine wpAnyS_seq (by rfl) (by kernel_rfl) ?_; simp only [List.drop_succ_cons, List.drop_zero])
        generalize w3.heap.size = gz at *
        go_wp2_with (first | ((with_reducible show wpList _ _ _ _ _ _); refine wpl_want rfl ?_) | (((with_reducible show wpList _ _ _ _ _ _); refine wpl_storeA rfl 54 _ _ rfl Tryd.aObj hs4 (0) rfl ([.int .i64 okind, .slice da odata.length dc, .slice ia oitems.length ic, .string otree, .slice pa oparents.length pc, .int .i64 ostamp, .int .i64 oauthor, .string omsg]) rfl (by rfl) (by simp) (by intro u hu; simp at hu; rcases hu with rfl | rfl | rfl | rfl | rfl | rfl | rfl | rfl <;> rfl) ?_; intro w5 hs5); replace hs5 := hs5.cast rfl (show _ = [.int .i64 okind, .slice da odata.length dc, .slice ia oitems.length ic, .string otree, .slice pa oparents.length pc, .int .i64 ostamp, .int .i64 oauthor, .string omsg] by simp)) | ((with_reducible show wpList _ _ _ _ _ _); refine wpl_loadA rfl 54 _ rfl Tryd.aObj (gz) (0) rfl ([.int .i64 okind, .slice da odata.length dc, .slice ia oitems.length ic, .string otree, .slice pa oparents.length pc, .int .i64 ostamp, .int .i64 oauthor, .string omsg]) rfl (fun i u h => by rw [Nat.zero_add]; exact hs5.rcell (List.mem_cons_self ..) h) ?_) | (go_at_call 32; refine (HEN.out _ _ _ _ _ hs5.tail).mono ?_; rintro e w6 ⟨xv, rfl, hk6⟩; obtain ⟨xa, xb, rfl, _⟩ := id hk6.sl0; have hs6 := hs5.call1 hk6) | (go_at_call 29; refine (bequal_any _ _ _ _ _ (hs6.sl0) (hs6.old HV.out)).mono ?_; rintro e w7 ⟨rfl, rfl⟩) | ((with_reducible show wpList _ _ _ _ _ _); refine wpl_loadA rfl 54 _ rfl Tryd.aObj (gz) (0) rfl ([.int .i64 okind, .slice da odata.length dc, .slice ia oitems.length ic, .string otree, .slice pa oparents.length pc, .int .i64 ostamp, .int .i64 oauthor, .string omsg]) rfl (fun i u h => by rw [Nat.zero_add]; exact hs6.rcell (List.mem_cons_of_mem _ (List.mem_cons_self ..)) h) ?_) | ((with_reducible show wpList _ _ _ _ _ _); refine wpl_storeA rfl 54 _ _ rfl Tryd.aObj (hs6.perm (R' := [_, _, _, _, _, _]) (List.perm_append_comm (l₁ := [_, _, _, _, _]) (l₂ := [_]))) (0) rfl ([.int .i64 okind, .slice da odata.length dc, .slice ia oitems.length ic, .string otree, .slice pa oparents.length pc, .int .i64 ostamp, .int .i64 oauthor, .string omsg]) rfl (by rfl) (by simp) (by intro u hu; simp at hu; rcases hu with rfl | rfl | rfl | rfl | rfl | rfl | rfl | rfl <;> rfl) ?_; intro w9 hs9))
        replace hs9 := hs9.cast rfl (show _ = [.int .i64 okind, .slice da odata.length dc, .slice ia oitems.length ic, .string otree, .slice pa oparents.length pc, .int .i64 ostamp, .int .i64 oauthor, .string omsg] by simp)
        have hcw : ∀ i u, ([.int .i64 okind, .slice da odata.length dc, .slice ia oitems.length ic, .string otree, .slice pa oparents.length pc, .int .i64 ostamp, .int .i64 oauthor, .string omsg])[i]? = some u → w9.cell? ⟨w.heap.size, i, none⟩ = some u := fun i u h => hs9.rcell (List.mem_cons_self ..) h
        refine bodyPost_ret (v := .tuple #[.agg ([.int .i64 okind, .slice da odata.length dc, .slice ia oitems.length ic, .string otree, .slice pa oparents.length pc, .int .i64 ostamp, .int .i64 oauthor, .string omsg]).toArray, .int .i64 0]) (results_cellA2 Tryd.results21 _ Tryd.aObj (g := w.heap.size) ([.int .i64 okind, .slice da odata.length dc, .slice ia oitems.length ic, .string otree, .slice pa oparents.length pc, .int .i64 ostamp, .int .i64 oauthor, .string omsg]) ?_ rfl hcw ?_) ?_ ⟨_, _, _, by rw [HF.out]; rfl, by rw [HF.out]; exact hs9.tail.tail.tail⟩
        · first | (simp; done) | simp [Act.put]
        · first | (simp; done) | simp [Act.put]
        · first | (simp; done) | simp [Act.put]
      · go_simp
        have HZ2 := Mx.hid (HZ.out.madeAt ([.int .i64 (0), .slice none 0 0, .slice none 0 0, .string (str []), .slice none 0 0, .int .i64 (0), .int .i64 (0), .string (str [])]).toArray 54 8 1 (w.heap.size + 1) rfl (by simp [maxLen]) (by rw [heap_size_alloc])).drew
        (refine hK.out _ _ ?_ (fun hHeld => ?_); (focus ((try dsimp only); exact HW.out _ _ _ HZ2.out)); clear hK K; (try simp only [Act.put, List.setIfInBounds_toArray, List.set_cons_zero, List.set_cons_succ]))
        (refine wpAnyS_ready (rs := [6]) (by kernel_rfl) (by simp) ?_; refine AllS.consL rfl (fun K hK => ?_) AllS.nil)
        (go_simp; go_at_call 31; refine (HR.out _ HZ2.out.bare).mono ?_; rintro e w3 ⟨dv, iv, pv, rfl, hk3⟩; obtain ⟨da, dc, rfl, _⟩ := id hk3.sl0; obtain ⟨ia, ic, rfl, _⟩ := id hk3.sl1; obtain ⟨pa, pc, rfl, _⟩ := id hk3.sl2; have hs3 := HZ2.out.call hk3; go_wp2_with fail)
        replace hs3 := hs3.perm (perm_zr _ _ _ _ _)
        have hs4 := hs3
        (refine hK.out _ _ ?_ (fun hHeld => ?_); (focus ((try dsimp only); exact HW.out _ _ _ hs3)); clear hK K; (try simp only [Act.put, List.setIfInBounds_toArray, List.set_cons_zero, List.set_cons_succ]))
        (refine wpAnyS_seq (by rfl) (by kernel_rfl) ?_; simp only [List.drop_succ_cons, List.drop_zero])
        clear hs3
        generalize w.heap.size + 1 = gz at hs4 ⊢
        go_wp2_with (first | ((with_reducible show wpList _ _ _ _ _ _); refine wpl_want rfl ?_) | (((with_reducible show wpList _ _ _ _ _ _); refine wpl_storeA rfl 54 _ _ rfl Tryd.aObj hs4 (0) rfl ([.int .i64 okind, .slice da odata.length dc, .slice ia oitems.length ic, .string otree, .slice pa oparents.length pc, .int .i64 ostamp, .int .i64 oauthor, .string omsg]) rfl (by rfl) (by simp) (by intro u hu; simp at hu; rcases hu with rfl | rfl | rfl | rfl | rfl | rfl | rfl | rfl <;> rfl) ?_; intro w5 hs5); replace hs5 := hs5.cast rfl (show _ = [.int .i64 okind, .slice da odata.length dc, .slice ia oitems.length ic, .string otree, .slice pa oparents.length pc, .int .i64 ostamp, .int .i64 oauthor, .string omsg] by simp)) | ((with_reducible show wpList _ _ _ _ _ _); refine wpl_loadA rfl 54 _ rfl Tryd.aObj (gz) (0) rfl ([.int .i64 okind, .slice da odata.length dc, .slice ia oitems.length ic, .string otree, .slice pa oparents.length pc, .int .i64 ostamp, .int .i64 oauthor, .string omsg]) rfl (fun i u h => by rw [Nat.zero_add]; exact hs5.rcell (List.mem_cons_self ..) h) ?_) | (go_at_call 32; refine (HEN.out _ _ _ _ _ hs5.tail).mono ?_; rintro e w6 ⟨xv, rfl, hk6⟩; obtain ⟨xa, xb, rfl, _⟩ := id hk6.sl0; have hs6 := hs5.call1 hk6) | (go_at_call 29; refine (bequal_any _ _ _ _ _ (hs6.sl0) (hs6.old HV.out)).mono ?_; rintro e w7 ⟨rfl, rfl⟩) | ((with_reducible show wpList _ _ _ _ _ _); refine wpl_loadA rfl 54 _ rfl Tryd.aObj (gz) (0) rfl ([.int .i64 okind, .slice da odata.length dc, .slice ia oitems.length ic, .string otree, .slice pa oparents.length pc, .int .i64 ostamp, .int .i64 oauthor, .string omsg]) rfl (fun i u h => by rw [Nat.zero_add]; exact hs6.rcell (List.mem_cons_of_mem _ (List.mem_cons_self ..)) h) ?_) | ((with_reducible show wpList _ _ _ _ _ _); refine wpl_storeA rfl 54 _ _ rfl Tryd.aObj (hs6.perm (R' := [_, _, _, _, _, _]) (List.perm_append_comm (l₁ := [_, _, _, _, _]) (l₂ := [_]))) (0) rfl ([.int .i64 okind, .slice da odata.length dc, .slice ia oitems.length ic, .string otree, .slice pa oparents.length pc, .int .i64 ostamp, .int .i64 oauthor, .string omsg]) rfl (by rfl) (by simp) (by intro u hu; simp at hu; rcases hu with rfl | rfl | rfl | rfl | rfl | rfl | rfl | rfl <;> rfl) ?_; intro w9 hs9))
        replace hs9 := hs9.cast rfl (show _ = [.int .i64 okind, .slice da odata.length dc, .slice ia oitems.length ic, .string otree, .slice pa oparents.length pc, .int .i64 ostamp, .int .i64 oauthor, .string omsg] by simp)
        have hcw : ∀ i u, ([.int .i64 okind, .slice da odata.length dc, .slice ia oitems.length ic, .string otree, .slice pa oparents.length pc, .int .i64 ostamp, .int .i64 oauthor, .string omsg])[i]? = some u → w9.cell? ⟨w.heap.size, i, none⟩ = some u := fun i u h => hs9.rcell (List.mem_cons_self ..) h
        refine bodyPost_ret (v := .tuple #[.agg ([.int .i64 okind, .slice da odata.length dc, .slice ia oitems.length ic, .string otree, .slice pa oparents.length pc, .int .i64 ostamp, .int .i64 oauthor, .string omsg]).toArray, .int .i64 0]) (results_cellA2 Tryd.results21 _ Tryd.aObj (g := w.heap.size) ([.int .i64 okind, .slice da odata.length dc, .slice ia oitems.length ic, .string otree, .slice pa oparents.length pc, .int .i64 ostamp, .int .i64 oauthor, .string omsg]) ?_ rfl hcw ?_) ?_ ⟨_, _, _, by rw [HF.out]; rfl, by rw [HF.out]; exact hs9.tail.tail.tail⟩
        · first | (simp; done) | simp [Act.put]
        · first | (simp; done) | simp [Act.put]
        · first | (simp; done) | simp [Act.put]
    · have HF := Mx.hid (show decO (k :: r) = (noOb, 4) by rw [HQ2.out, if_neg (fun h => hb h.2)])
      have hbd := decide_eq_false hb
      clear hoz HQ2 hm
      generalize hEL : encL ⟨okind, odata, oitems, otree, oparents, ostamp, oauthor, omsg⟩ = EL at *
      have HEL := Mx.hid hEL
      have HB := Mx.hid hb
      clear hEL hb
      go_enter Tryd.func21, Tryd.ntmps21
      go_wp2_with fail
      (refine wp_region_S (8) (fun W' => W'.cell? ⟨blk, off, none⟩ = some (.int .u8 kk)) (by kernel_rfl) ?_ (fun hHeld => ?_); (focus ((try dsimp only); exact HW.out _ _ _ HZ.out.drew)))
      (refine wpAnyS_takeL (i := 0) (v := ?_) rfl (by kernel_rfl) (by kernel_rfl) (by kernel_rfl) (by kernel_rfl) (by kernel_rfl) (by kernel_rfl) (fun _ _ _ h => h) (Or.inl ⟨by rfl, ?_⟩) hHeld ?_; rotate_left 1; (focus (intro w' hSw; (try dsimp only at hSw); go_simp; (try with_reducible rfl))); (try simp only [Act.put, List.setIfInBounds_toArray, List.set_cons_zero, List.set_cons_succ]))
      (refine wpAnyS_takeW (i := 1) (v := ?_) rfl (by kernel_rfl) (by kernel_rfl) (by kernel_rfl) (by kernel_rfl) (fun _ _ _ h => h) (Or.inl ⟨by rfl, ?_⟩) hHeld ?_; rotate_left 1; (focus (intro w' hSw; go_simp; (try with_reducible rfl))); (try simp only [Act.put, List.setIfInBounds_toArray, List.set_cons_zero, List.set_cons_succ]))
      (refine wpAnyS_takeL (i := 2) (v := ?_) rfl (by kernel_rfl) (by kernel_rfl) (by kernel_rfl) (by kernel_rfl) (by kernel_rfl) (by kernel_rfl) (fun _ _ _ h => h) (Or.inl ⟨by rfl, ?_⟩) hHeld ?_; rotate_left 1; (focus (intro w' hSw; (try dsimp only at hSw); go_simp; (try with_reducible rfl))); (try simp only [Act.put, List.setIfInBounds_toArray, List.set_cons_zero, List.set_cons_succ]))
      (refine wpAnyS_takeW (i := 3) (v := ?_) rfl (by kernel_rfl) (by kernel_rfl) (by kernel_rfl) (by kernel_rfl) (fun _ _ _ h => h) (Or.inl ⟨by rfl, ?_⟩) hHeld ?_; rotate_left 1; (focus (intro w' hSw; go_simp; (try with_reducible rfl))); (try simp only [Act.put, List.setIfInBounds_toArray, List.set_cons_zero, List.set_cons_succ]))
      (refine wpAnyS_takeW (i := 4) (v := ?_) rfl (by kernel_rfl) (by kernel_rfl) (by kernel_rfl) (by kernel_rfl) (fun _ _ _ h => h) (Or.inl ⟨by rfl, ?_⟩) hHeld ?_; rotate_left 1; (focus (intro w' hSw; go_simp; (try with_reducible rfl))); (try simp only [Act.put, List.setIfInBounds_toArray, List.set_cons_zero, List.set_cons_succ]))
      (refine wpAnyS_takeW (i := 5) (v := ?_) rfl (by kernel_rfl) (by kernel_rfl) (by kernel_rfl) (by kernel_rfl) (fun _ _ _ h => h) (Or.inl ⟨by rfl, ?_⟩) hHeld ?_; rotate_left 1; (focus (intro w' hSw; go_simp; (try with_reducible rfl))); (try simp only [Act.put, List.setIfInBounds_toArray, List.set_cons_zero, List.set_cons_succ]))
      refine wpAnyS_ready (rs := [6, 7]) (by kernel_rfl) (by simp) ?_
      refine AllS.consL rfl (fun K hK => ?_) (AllS.consL rfl (fun K hK => ?_) AllS.nil)
      · (go_simp; go_at_call 31; refine (HR.out _ HZ.out.drew.bare).mono ?_; rintro e w3 ⟨dv, iv, pv, rfl, hk3⟩; obtain ⟨da, dc, rfl, _⟩ := id hk3.sl0; obtain ⟨ia, ic, rfl, _⟩ := id hk3.sl1; obtain ⟨pa, pc, rfl, _⟩ := id hk3.sl2; have hs3 := HZ.out.drew.call hk3; go_wp2_with fail)
        (refine hK.out _ _ ?_ (fun hHeld => ?_); (focus ((try dsimp only); exact HW.out _ _ _ hs3)); clear hK K; (try simp only [Act.put, List.setIfInBounds_toArray, List.set_cons_zero, List.set_cons_succ]))
        (refine wpAnyS_ready (rs := [7]) (by kernel_rfl) (by simp) ?_; refine AllS.consL rfl (fun K hK => ?_) AllS.nil)
        go_simp
        have hs4 := hs3.madeAt ([.int .i64 (0), .slice none 0 0, .slice none 0 0, .string (str []), .slice none 0 0, .int .i64 (0), .int .i64 (0), .string (str [])]).toArray 54 8 1 w3.heap.size rfl (by simp [maxLen]) rfl
        (refine hK.out _ _ ?_ (fun hHeld => ?_); (focus ((try dsimp only); exact HW.out _ _ _ hs4)); clear hK K; (try simp only [Act.put, List.setIfInBounds_toArray, List.set_cons_zero, List.set_cons_succ]))
        (refine wpAnyS_seq (by rfl) (by kernel_rfl) ?_; simp only [List.drop_succ_cons, List.drop_zero])
        generalize w3.heap.size = gz at *
        go_wp2_with (first | ((with_reducible show wpList _ _ _ _ _ _); refine wpl_want rfl ?_) | (((with_reducible show wpList _ _ _ _ _ _); refine wpl_storeA rfl 54 _ _ rfl Tryd.aObj hs4 (0) rfl ([.int .i64 okind, .slice da odata.length dc, .slice ia oitems.length ic, .string otree, .slice pa oparents.length pc, .int .i64 ostamp, .int .i64 oauthor, .string omsg]) rfl (by rfl) (by simp) (by intro u hu; simp at hu; rcases hu with rfl | rfl | rfl | rfl | rfl | rfl | rfl | rfl <;> rfl) ?_; intro w5 hs5); replace hs5 := hs5.cast rfl (show _ = [.int .i64 okind, .slice da odata.length dc, .slice ia oitems.length ic, .string otree, .slice pa oparents.length pc, .int .i64 ostamp, .int .i64 oauthor, .string omsg] by simp)) | ((with_reducible show wpList _ _ _ _ _ _); refine wpl_loadA rfl 54 _ rfl Tryd.aObj (gz) (0) rfl ([.int .i64 okind, .slice da odata.length dc, .slice ia oitems.length ic, .string otree, .slice pa oparents.length pc, .int .i64 ostamp, .int .i64 oauthor, .string omsg]) rfl (fun i u h => by rw [Nat.zero_add]; exact hs5.rcell (List.mem_cons_self ..) h) ?_) | (go_at_call 32; refine (HEN.out _ _ _ _ _ hs5.tail).mono ?_; rintro e w6 ⟨xv, rfl, hk6⟩; obtain ⟨xa, xb, rfl, _⟩ := id hk6.sl0; have hs6 := hs5.call1 hk6) | (go_at_call 29; refine (bequal_any _ _ _ _ _ (hs6.sl0) (hs6.old HV.out)).mono ?_; rintro e w7 ⟨rfl, rfl⟩) | ((with_reducible show wpList _ _ _ _ _ _); refine wpl_storeA rfl 54 _ _ rfl Tryd.aObj (hs6.perm (R' := [_, _, _, _, _, _]) (List.perm_append_comm (l₁ := [_, _, _, _, _]) (l₂ := [_]))) (0) rfl ([.int .i64 (0), .slice none 0 0, .slice none 0 0, .string (str []), .slice none 0 0, .int .i64 (0), .int .i64 (0), .string (str [])]) rfl (by rfl) (by simp) (by intro u hu; simp at hu; rcases hu with rfl | rfl | rfl | rfl | rfl | rfl | rfl | rfl <;> rfl) ?_; intro w9 hs9))
        replace hs9 := hs9.cast rfl (show _ = [.int .i64 (0), .slice none 0 0, .slice none 0 0, .string (str []), .slice none 0 0, .int .i64 (0), .int .i64 (0), .string (str [])] by simp)
        have hcw : ∀ i u, ([.int .i64 (0), .slice none 0 0, .slice none 0 0, .string (str []), .slice none 0 0, .int .i64 (0), .int .i64 (0), .string (str [])])[i]? = some u → w9.cell? ⟨w.heap.size, i, none⟩ = some u := fun i u h => hs9.rcell (List.mem_cons_self ..) h
        refine bodyPost_ret (v := .tuple #[.agg ([.int .i64 (0), .slice none 0 0, .slice none 0 0, .string (str []), .slice none 0 0, .int .i64 (0), .int .i64 (0), .string (str [])]).toArray, .int .i64 4]) (results_cellA2 Tryd.results21 _ Tryd.aObj (g := w.heap.size) ([.int .i64 (0), .slice none 0 0, .slice none 0 0, .string (str []), .slice none 0 0, .int .i64 (0), .int .i64 (0), .string (str [])]) ?_ rfl hcw ?_) ?_ ⟨_, _, _, by rw [HF.out]; rfl, by rw [HF.out]; exact ((hs9.bare.addNil _ _).addNil _ _).addNil _ _⟩
        · first | (simp; done) | simp [Act.put]
        · first | (simp; done) | simp [Act.put]
        · first | (simp; done) | simp [Act.put]
      · go_simp
        have HZ2 := Mx.hid (HZ.out.madeAt ([.int .i64 (0), .slice none 0 0, .slice none 0 0, .string (str []), .slice none 0 0, .int .i64 (0), .int .i64 (0), .string (str [])]).toArray 54 8 1 (w.heap.size + 1) rfl (by simp [maxLen]) (by rw [heap_size_alloc])).drew
        (refine hK.out _ _ ?_ (fun hHeld => ?_); (focus ((try dsimp only); exact HW.out _ _ _ HZ2.out)); clear hK K; (try simp only [Act.put, List.setIfInBounds_toArray, List.set_cons_zero, List.set_cons_succ]))
        (refine wpAnyS_ready (rs := [6]) (by kernel_rfl) (by simp) ?_; refine AllS.consL rfl (fun K hK => ?_) AllS.nil)
        (go_simp; go_at_call 31; refine (HR.out _ HZ2.out.bare).mono ?_; rintro e w3 ⟨dv, iv, pv, rfl, hk3⟩; obtain ⟨da, dc, rfl, _⟩ := id hk3.sl0; obtain ⟨ia, ic, rfl, _⟩ := id hk3.sl1; obtain ⟨pa, pc, rfl, _⟩ := id hk3.sl2; have hs3 := HZ2.out.call hk3; go_wp2_with fail)
        replace hs3 := hs3.perm (perm_zr _ _ _ _ _)
        have hs4 := hs3
        (refine hK.out _ _ ?_ (fun hHeld => ?_); (focus ((try dsimp only); exact HW.out _ _ _ hs3)); clear hK K; (try simp only [Act.put, List.setIfInBounds_toArray, List.set_cons_zero, List.set_cons_succ]))
        (refine wpAnyS_seq (by rfl) (by kernel_rfl) ?_; simp only [List.drop_succ_cons, List.drop_zero])
        clear hs3
        generalize w.heap.size + 1 = gz at hs4 ⊢
        go_wp2_with (first | ((with_reducible show wpList _ _ _ _ _ _); refine wpl_want rfl ?_) | (((with_reducible show wpList _ _ _ _ _ _); refine wpl_storeA rfl 54 _ _ rfl Tryd.aObj hs4 (0) rfl ([.int .i64 okind, .slice da odata.length dc, .slice ia oitems.length ic, .string otree, .slice pa oparents.length pc, .int .i64 ostamp, .int .i64 oauthor, .string omsg]) rfl (by rfl) (by simp) (by intro u hu; simp at hu; rcases hu with rfl | rfl | rfl | rfl | rfl | rfl | rfl | rfl <;> rfl) ?_; intro w5 hs5); replace hs5 := hs5.cast rfl (show _ = [.int .i64 okind, .slice da odata.length dc, .slice ia oitems.length ic, .string otree, .slice pa oparents.length pc, .int .i64 ostamp, .int .i64 oauthor, .string omsg] by simp)) | ((with_reducible show wpList _ _ _ _ _ _); refine wpl_loadA rfl 54 _ rfl Tryd.aObj (gz) (0) rfl ([.int .i64 okind, .slice da odata.length dc, .slice ia oitems.length ic, .string otree, .slice pa oparents.length pc, .int .i64 ostamp, .int .i64 oauthor, .string omsg]) rfl (fun i u h => by rw [Nat.zero_add]; exact hs5.rcell (List.mem_cons_self ..) h) ?_) | (go_at_call 32; refine (HEN.out _ _ _ _ _ hs5.tail).mono ?_; rintro e w6 ⟨xv, rfl, hk6⟩; obtain ⟨xa, xb, rfl, _⟩ := id hk6.sl0; have hs6 := hs5.call1 hk6) | (go_at_call 29; refine (bequal_any _ _ _ _ _ (hs6.sl0) (hs6.old HV.out)).mono ?_; rintro e w7 ⟨rfl, rfl⟩) | ((with_reducible show wpList _ _ _ _ _ _); refine wpl_storeA rfl 54 _ _ rfl Tryd.aObj (hs6.perm (R' := [_, _, _, _, _, _]) (List.perm_append_comm (l₁ := [_, _, _, _, _]) (l₂ := [_]))) (0) rfl ([.int .i64 (0), .slice none 0 0, .slice none 0 0, .string (str []), .slice none 0 0, .int .i64 (0), .int .i64 (0), .string (str [])]) rfl (by rfl) (by simp) (by intro u hu; simp at hu; rcases hu with rfl | rfl | rfl | rfl | rfl | rfl | rfl | rfl <;> rfl) ?_; intro w9 hs9))
        replace hs9 := hs9.cast rfl (show _ = [.int .i64 (0), .slice none 0 0, .slice none 0 0, .string (str []), .slice none 0 0, .int .i64 (0), .int .i64 (0), .string (str [])] by simp)
        have hcw : ∀ i u, ([.int .i64 (0), .slice none 0 0, .slice none 0 0, .string (str []), .slice none 0 0, .int .i64 (0), .int .i64 (0), .string (str [])])[i]? = some u → w9.cell? ⟨w.heap.size, i, none⟩ = some u := fun i u h => hs9.rcell (List.mem_cons_self ..) h
        refine bodyPost_ret (v := .tuple #[.agg ([.int .i64 (0), .slice none 0 0, .slice none 0 0, .string (str []), .slice none 0 0, .int .i64 (0), .int .i64 (0), .string (str [])]).toArray, .int .i64 4]) (results_cellA2 Tryd.results21 _ Tryd.aObj (g := w.heap.size) ([.int .i64 (0), .slice none 0 0, .slice none 0 0, .string (str []), .slice none 0 0, .int .i64 (0), .int .i64 (0), .string (str [])]) ?_ rfl hcw ?_) ?_ ⟨_, _, _, by rw [HF.out]; rfl, by rw [HF.out]; exact ((hs9.bare.addNil _ _).addNil _ _).addNil _ _⟩
        · first | (simp; done) | simp [Act.put]
        · first | (simp; done) | simp [Act.put]
        · first | (simp; done) | simp [Act.put]
end Go.Proofs.YtlfdnlomlbbicaaDoor
