/- Walks of the source that an object is read from: take, one, number, hash. The walk of bytes.Clone. The walk of obj.read: another kind, a blob. -/
import Derived.Test.YtlfdnlomlbbicaaGreatDoorObjI
import Derived.Test.YtlfdnlomlbbicaaGreatDoorJ4Lib3
namespace Go.Mx
open Go Go.RowKit
theorem tk_stop {n : Nat} {l : List UInt8} {sh : Bool} (h : sh = true ∨ l.length < n) : tk n (l, sh) = ([], (l, true)) := by unfold tk; rw [if_pos h]
theorem tk_go {n : Nat} {l : List UInt8} (h : n ≤ l.length) : tk n (l, false) = (l.take n, (l.drop n, false)) := by unfold tk; rw [if_neg (by simp; omega)]
theorem getS_bounds (l : List UInt8) (h : (getS l 0).2.2 = 0) : (0 ≤ (getS l 0).1 ∧ (getS l 0).1 ≤ 72057594037927936) ∧ 0 ≤ (getS l 0).2.1 ∧ (getS l 0).2.1 ≤ l.length := by
  unfold getS at h ⊢
  by_cases h1 : (0 : Int) < 0 ∨ (l.length : Int) < 0
  · rw [if_pos h1] at h; cases h
  · rw [if_neg h1] at h ⊢
    by_cases h2 : (0 : Int).toNat + hiN (l.drop (0 : Int).toNat) = l.length
    · rw [if_pos h2] at h; cases h
    · rw [if_neg h2] at h ⊢
      split at h
      · cases h
      · rename_i h3
        rw [if_neg h3]
        have := hiN_le (l.drop (0 : Int).toNat)
        simp only [show (0 : Int).toNat = 0 from rfl, List.drop_zero, Nat.zero_add] at *
        refine ⟨⟨by omega, by omega⟩, by omega, by omega⟩
end Go.Mx
namespace Go.Proofs.YtlfdnlomlbbicaaGreatDoor
open Go.RowKit Go.Mx

/-- What take leaves. -/
def TakePost (w0 : World) (R : List Row) (Q : List Rd) (g : Nat) (x : List UInt8) (s : Src) (e : Ending) (w' : World) : Prop :=
  ∃ vx v' : Value, e = .returned vx ∧ Sl w0 1 vx x.length (bs x) ∧ Sl w0 1 v' s.1.length (bs s.1) ∧ St w0 w' ((⟨.slice (some ⟨g, 0, none⟩) 1 1, 130, 2, 1, [v', .bool s.2]⟩ : Row) :: R) Q
/-- What the others leave. -/
def SrcPost (w0 : World) (R : List Row) (Q : List Rd) (g : Nat) (x : Value) (s : Src) (e : Ending) (w' : World) : Prop :=
  ∃ v' : Value, e = .returned x ∧ Sl w0 1 v' s.1.length (bs s.1) ∧ St w0 w' ((⟨.slice (some ⟨g, 0, none⟩) 1 1, 130, 2, 1, [v', .bool s.2]⟩ : Row) :: R) Q

set_option maxHeartbeats 1000000 in
theorem take_go {w0 w : World} {R : List Row} {Q : List Rd} {g : Nat} {v : Value} {sh : Bool} (l : List UInt8) (n : Nat) (hs : St w0 w ((⟨.slice (some ⟨g, 0, none⟩) 1 1, 130, 2, 1, [v, .bool sh]⟩ : Row) :: R) Q) (hl : Sl w0 1 v l.length (bs l)) (hn : n ≤ 72057594037927936) :
    Calls Tryz.prog 74 #[.pointer (some ⟨g, 0, none⟩), .int .i64 (n : Int)] w (TakePost w0 R Q g (tk n (l, sh)).1 (tk n (l, sh)).2) := by
  have c0 : w.cell? ⟨g, 0, none⟩ = some v := hs.cell (j := 0) rfl
  have c1 : w.cell? ⟨g, 1, none⟩ = some (.bool sh) := hs.cell (j := 1) rfl
  have HL := Mx.hid hl
  cases sh with
  | true =>
    rw [tk_stop (.inl rfl)]
    obtain ⟨ao, cap, rfl, h1, h2, _⟩ := hl.bytes
    unfold maxLen at h2
    clear hl
    go_enter Tryz.func74, Tryz.ntmps74
    go_wp2_with (first | ((with_reducible show wpList _ _ _ _ _ _); refine wpl_want rfl ?_) | ((with_reducible show wpList _ _ _ _ _ _); refine wpl_store1 rfl 4 _ _ rfl hs (1) rfl (.bool true) rfl rfl (by kernel_rfl) (by simp) rfl ?_; intro w1 hs1))
    go_ret
    exact ⟨_, _, rfl, Sl.nil _ 1, HL.out, hs1⟩
  | false =>
    by_cases hlt : l.length < n
    · rw [tk_stop (.inr hlt)]
      obtain ⟨ao, cap, rfl, h1, h2, _⟩ := hl.bytes
      unfold maxLen at h2
      have q1 : decide ((l.length : Int) < (n : Int)) = true := decide_eq_true (by omega)
      have q2 : decide (l.length < n) = true := decide_eq_true hlt
      clear hl hlt
      go_enter Tryz.func74, Tryz.ntmps74
      go_wp2_with (first | ((with_reducible show wpList _ _ _ _ _ _); refine wpl_want rfl ?_) | ((with_reducible show wpList _ _ _ _ _ _); refine wpl_store1 rfl 4 _ _ rfl hs (1) rfl (.bool true) rfl rfl (by kernel_rfl) (by simp) rfl ?_; intro w1 hs1))
      go_ret
      exact ⟨_, _, rfl, Sl.nil _ 1, HL.out, hs1⟩
    · rw [tk_go (by omega)]
      obtain ⟨xa, p2, q2⟩ := hl.cutRun Tryz.elU8 none (some (.int .i64 (n : Int))) 0 n (.inl ⟨rfl, rfl⟩) (.inr ⟨.i64, rfl⟩) (by omega) (by omega)
      obtain ⟨xb, p3, q3⟩ := hl.cutRun Tryz.elU8 (some (.int .i64 (n : Int))) none n l.length (.inr ⟨.i64, rfl⟩) (.inl ⟨rfl, rfl⟩) (by omega) (by omega)
      have ha := Sl.cutB (q2 _ hl) (by omega) (by omega)
      have hb := Sl.cutB (q3 _ hl) (by omega) (by omega)
      rw [List.drop_zero] at ha
      rw [List.take_length] at hb
      obtain ⟨aa, ac, rfl, _⟩ := id ha
      obtain ⟨ba, bc', rfl, _⟩ := id hb
      have HA := Mx.hid ha
      have HB := Mx.hid hb
      obtain ⟨ao, cap, rfl, h1, h2, _⟩ := hl.bytes
      unfold maxLen at h2
      have q1 : decide ((l.length : Int) < (n : Int)) = false := decide_eq_false (by omega)
      have q2 : decide (l.length < n) = false := decide_eq_false hlt
      have Hlt := Mx.hid hlt
      clear hl hlt ha hb
      have HP := Mx.hid (fun w' (h : St w0 w' ((⟨.slice (some ⟨g, 0, none⟩) 1 1, 130, 2, 1, [.slice ba (l.drop n).length bc', .bool false]⟩ : Row) :: R) Q) => (show TakePost w0 R Q g (l.take n) (l.drop n, false) (.returned (.slice aa (l.take n).length ac)) w' from ⟨_, _, rfl, HA.out, HB.out, h⟩))
      clear HA HB
      generalize l.take n = t1 at *
      generalize l.drop n = t2 at *
      generalize t1.length = n1 at *
      generalize t2.length = n2 at *
      go_enter Tryz.func74, Tryz.ntmps74
      go_wp2_with (first | ((with_reducible show wpList _ _ _ _ _ _); refine wpl_want rfl ?_) | ((with_reducible show wpList _ _ _ _ _ _); refine wpl_store1 rfl 25 _ _ rfl hs (0) rfl (.slice ba n2 bc') rfl rfl (by kernel_rfl) (by simp) rfl ?_; intro w1 hs1))
      go_ret
      exact HP.out _ hs1

set_option maxRecDepth 100000 in
theorem one_go {w0 w : World} {R : List Row} {Q : List Rd} {g : Nat} {v : Value} {sh : Bool} (l : List UInt8) (hs : St w0 w ((⟨.slice (some ⟨g, 0, none⟩) 1 1, 130, 2, 1, [v, .bool sh]⟩ : Row) :: R) Q) (hl : Sl w0 1 v l.length (bs l)) :
    Calls Tryz.prog 73 #[.pointer (some ⟨g, 0, none⟩)] w (SrcPost w0 R Q g (.int .i64 ((on (l, sh)).1 : Int)) (on (l, sh)).2) := by
  have HT := Mx.hid (take_go l 1 hs hl (by omega))
  unfold on
  generalize tk 1 (l, sh) = t at *
  obtain ⟨x, s⟩ := t
  simp only [] at *
  clear hs hl
  go_enter Tryz.func73, Tryz.ntmps73
  go_wp2_with fail
  refine HT.out.mono ?_
  rintro e w1 ⟨vx, v', rfl, hx, hv, hs1⟩
  have hx2 := hs1.old hx
  have HV := Mx.hid hv
  clear hv hx
  match x, hx2 with
  | [], hx2 =>
    obtain ⟨ao, cap, rfl, h1, h2, _⟩ := hx2.bytes
    clear hx2
    go_wp2_with fail
    go_ret
    exact ⟨_, rfl, HV.out, hs1⟩
  | y :: x, hx2 =>
    obtain ⟨ao, cap, blk, off, rfl, h1, h2, _, hc⟩ := hx2.byt
    obtain ⟨rfl, c0⟩ := hc 0 (by simp)
    clear hx2 hc
    simp only [Nat.add_zero, List.getElem_cons_zero, List.length_cons] at *
    have q1 : (((x.length + 1 : Nat) : Int) == 0) = false := by simp; omega
    have hy := u8_lt y
    have hw : wrap64 (y.toNat : Int) = (y.toNat : Int) := by unfold wrap64; omega
    go_wp2_with fail
    go_ret
    exact ⟨_, rfl, HV.out, hs1⟩

theorem srcHash_go {w0 w : World} {R : List Row} {Q : List Rd} {g : Nat} {v : Value} {sh : Bool} (l : List UInt8) (hs : St w0 w ((⟨.slice (some ⟨g, 0, none⟩) 1 1, 130, 2, 1, [v, .bool sh]⟩ : Row) :: R) Q) (hl : Sl w0 1 v l.length (bs l)) :
    Calls Tryz.prog 75 #[.pointer (some ⟨g, 0, none⟩)] w (SrcPost w0 R Q g (.string (Mx.hs (l, sh)).1) (Mx.hs (l, sh)).2) := by
  have HT := Mx.hid (take_go l 32 hs hl (by omega))
  have hx32 : (tk 32 (l, sh)).1.length ≤ 32 := by unfold tk; split <;> simp; omega
  unfold Mx.hs
  generalize tk 32 (l, sh) = t at *
  obtain ⟨x, s⟩ := t
  simp only [] at *
  clear hs hl
  go_enter Tryz.func75, Tryz.ntmps75
  go_wp2_with fail
  refine HT.out.mono ?_
  rintro e w1 ⟨vx, v', rfl, hx, hv, hs1⟩
  have HX := Mx.hid (fun wx (h : St w1 wx [] []) => shex_any vx x wx (h.old (hs1.old hx)) (by omega))
  have HV := Mx.hid hv
  clear hv hx
  go_wp2_with fail
  refine (HX.out _ (St.refl _)).mono ?_
  rintro e w2 ⟨rfl, hk⟩
  go_wp2_with fail
  go_ret
  exact ⟨_, rfl, HV.out, hs1.call0 hk⟩

set_option maxHeartbeats 1000000 in
theorem srcNumber_go {w0 w : World} {R : List Row} {Q : List Rd} {g : Nat} {v : Value} {sh : Bool} (l : List UInt8) (hs : St w0 w ((⟨.slice (some ⟨g, 0, none⟩) 1 1, 130, 2, 1, [v, .bool sh]⟩ : Row) :: R) Q) (hl : Sl w0 1 v l.length (bs l)) (hn : l.length ≤ 140737488355328) :
    Calls Tryz.prog 72 #[.pointer (some ⟨g, 0, none⟩)] w (SrcPost w0 R Q g (.int .i64 ((nm (l, sh)).1 : Int)) (nm (l, sh)).2) := by
  have c0 : w.cell? ⟨g, 0, none⟩ = some v := hs.cell (j := 0) rfl
  have HG := Mx.hid (get_any v l 0 w (hs.old hl) hn)
  have hg := getS_bounds l
  unfold GetPost at HG
  unfold nm
  have HT := Mx.hid (fun (wx : World) (n : Nat) (h : St w wx [] []) (hn : n ≤ 72057594037927936) => take_go l n (hs.call0 h) hl hn)
  simp only [] at *
  generalize getS l 0 = t at *
  obtain ⟨n, e, er⟩ := t
  simp only [] at *
  have HL := Mx.hid hl
  obtain ⟨ao, cap, rfl, h1, h2, _⟩ := hl.bytes
  clear hl
  by_cases her : er = 0
  · subst her
    rw [if_pos rfl]
    obtain ⟨⟨hn0, hn1⟩, he0, he1⟩ := hg rfl
    obtain ⟨n, rfl⟩ := Int.eq_ofNat_of_zero_le hn0
    obtain ⟨e, rfl⟩ := Int.eq_ofNat_of_zero_le he0
    have HT2 := Mx.hid (fun w1 hk => HT.out w1 e hk (by omega))
    simp only [Int.toNat_natCast] at *
    generalize tk e (l, sh) = t at *
    obtain ⟨x, s⟩ := t
    simp only [] at *
    clear hn0 he0 hn1 he1 hg
    go_enter Tryz.func72, Tryz.ntmps72
    go_wp2_with fail
    refine HG.out.mono ?_
    rintro e1 w1 ⟨rfl, hk⟩
    go_wp2_with fail
    refine (HT2.out _ hk).mono ?_
    rintro e2 w2 ⟨vx, v', rfl, hx, hv, hs2⟩
    have HV := Mx.hid hv
    clear hv hx
    go_wp2_with fail
    go_ret
    exact ⟨_, rfl, HV.out, hs2⟩
  · rw [if_neg her]
    have q1 : (er != 0) = true := by simpa using her
    clear hg her
    go_enter Tryz.func72, Tryz.ntmps72
    go_wp2_with fail
    refine HG.out.mono ?_
    rintro e1 w1 ⟨rfl, hk⟩
    have hs1 := hs.call0 hk
    go_wp2_with (first | ((with_reducible show wpList _ _ _ _ _ _); refine wpl_store1 rfl 4 _ _ rfl hs1 (1) rfl (.bool true) rfl rfl (by kernel_rfl) (by simp) rfl ?_; intro w2 hs2))
    go_ret
    exact ⟨_, rfl, HL.out, hs2⟩
end Go.Proofs.YtlfdnlomlbbicaaGreatDoor

namespace Go.Proofs.YtlfdnlomlbbicaaGreatDoor
open Go.RowKit Go.Mx

theorem clone_any (v : Value) (l : List UInt8) (w : World) (hv : Sl w 1 v l.length (bs l)) (hl : l.length ≤ 140737488355328) :
    Calls Tryz.prog 59 #[v] w fun e w' => ∃ v', e = .returned v' ∧ St w w' [⟨v', 5, 1, l.length, bs l⟩] [] := by
  obtain ⟨ao, cap, rfl, h1, h2, h3, h4, h5⟩ := id hv
  cases ao with
  | none =>
    have hz : l = [] := List.eq_nil_of_length_eq_zero (by have := h4 rfl; omega)
    subst hz
    have q22 : ∀ (w : World) (n c : Nat), (binOp .eql 25 (.slice none n c) (.slice none 0 0)).run Tryz.prog w = .ok (.bool true) w := fun w n c => Lib.run_eql_slice_nil w _ _ none n c 0 0 Tryz.underlying25
    clear hv h5
    go_enter Tryz.func59, Tryz.ntmps59
    go_wp2_with fail
    go_ret
    exact ⟨_, rfl, St.nil w 5 1⟩
  | some a =>
    have q22 : ∀ (w : World) (n c : Nat), (binOp .eql 25 (.slice (some a) n c) (.slice none 0 0)).run Tryz.prog w = .ok (.bool false) w := fun w n c => Lib.run_eql_slice_nil w _ _ (some a) n c 0 0 Tryz.underlying25
    have hs := (St.refl w).made #[] 5 1 0 rfl (by simp)
    clear h5
    go_enter Tryz.func59, Tryz.ntmps59
    go_wp2_with (at_builtin; refine wpl_app rfl _ _ 25 rfl Tryz.elU8 hs rfl (by exact hs.old hv) (bs_one _) (by omega) ?_; intro v1 w1 hs1 _)
    go_ret
    exact ⟨_, rfl, hs1.cast (by simp) (by simp)⟩
end Go.Proofs.YtlfdnlomlbbicaaGreatDoor

namespace Go.Proofs.YtlfdnlomlbbicaaGreatDoor
open Go.RowKit Go.Mx

/-- The memory of an object that the call made: its three slices. -/
abbrev obR (dv iv pv : Value) (o : Ob) : List Row := [⟨dv, 5, 1, o.data.length, bs o.data⟩, ⟨iv, 132, 3, o.items.length, itms o.items⟩, ⟨pv, 9, 1, o.parents.length, ss o.parents⟩]
def ReadPost (w : World) (o : Ob) (e : Ending) (w' : World) : Prop := ∃ dv iv pv, e = .returned (OV dv iv pv o) ∧ St w w' (obR dv iv pv o) []

set_option maxRecDepth 100000 in
set_option maxHeartbeats 1000000 in
theorem read_other (v : Value) (l : List UInt8) (kind : Int) (w : World) (hv : Sl w 1 v l.length (bs l)) (k1 : kind ≠ 1) (k2 : kind ≠ 2) (k3 : kind ≠ 3) :
    Calls Tryz.prog 52 #[.int .i64 kind, v] w (ReadPost w (readO kind l)) := by
  have hr : readO kind l = ⟨kind, [], [], str [], [], 0, 0, str []⟩ := by unfold readO; rw [if_neg k1, if_neg k2, if_neg k3]
  rw [hr]
  have q1 : (kind == 1) = false := by simpa using k1
  have q2 : (kind == 2) = false := by simpa using k2
  have q3 : (kind == 3) = false := by simpa using k3
  obtain ⟨ao, cap, rfl, h1, h2, _⟩ := hv.bytes
  have HZ := Mx.hid (((St.refl w).madeAt ([.int .i64 (0), .slice none 0 0, .slice none 0 0, .string (str []), .slice none 0 0, .int .i64 (0), .int .i64 (0), .string (str [])]).toArray 72 8 1 w.heap.size rfl (by simp [maxLen]) rfl).madeAt ([.int .i64 (0), .slice none 0 0, .slice none 0 0, .string (str []), .slice none 0 0, .int .i64 (0), .int .i64 (0), .string (str [])]).toArray 72 8 1 (w.heap.size + 1) rfl (by simp [maxLen]) (by rw [heap_size_alloc]))
  clear k1 k2 k3 hr hv
  go_enter Tryz.func52, Tryz.ntmps52
  go_wp2_with (first | (((with_reducible show wpList _ _ _ _ _ _); refine wpl_storeA rfl 72 _ _ rfl Tryz.aObj HZ.out (0) rfl ([.int .i64 (kind), .slice none 0 0, .slice none 0 0, .string (str []), .slice none 0 0, .int .i64 (0), .int .i64 (0), .string (str [])]) rfl (by rfl) (by simp) (by intro u hu; simp at hu; rcases hu with rfl | rfl | rfl | rfl | rfl | rfl | rfl | rfl <;> rfl) ?_; intro w1 hs1); clear HZ) | (((with_reducible show wpList _ _ _ _ _ _); refine wpl_box rfl 130 _ rfl hs1 ([.slice ao l.length cap, .bool false]) (by rfl) ?_; intro gx w2 hs2)) | ((with_reducible show wpList _ _ _ _ _ _); refine wpl_loadA rfl 72 _ rfl Tryz.aObj ((w.heap.size + 1)) (0) rfl ([.int .i64 (kind), .slice none 0 0, .slice none 0 0, .string (str []), .slice none 0 0, .int .i64 (0), .int .i64 (0), .string (str [])]) rfl (fun i u h => by rw [Nat.zero_add]; exact hs2.rcell (List.mem_cons_of_mem _ (List.mem_cons_self ..)) h) ?_) | (((with_reducible show wpList _ _ _ _ _ _); refine wpl_storeA rfl 72 _ _ rfl Tryz.aObj (hs2.perm (List.perm_append_comm (l₁ := [_, _]) (l₂ := [_]))) (0) rfl ([.int .i64 (kind), .slice none 0 0, .slice none 0 0, .string (str []), .slice none 0 0, .int .i64 (0), .int .i64 (0), .string (str [])]) rfl (by rfl) (by simp) (by intro u hu; simp at hu; rcases hu with rfl | rfl | rfl | rfl | rfl | rfl | rfl | rfl <;> rfl) ?_; intro w9 hs9)))
  replace hs9 := hs9.cast rfl (show _ = [.int .i64 (kind), .slice none 0 0, .slice none 0 0, .string (str []), .slice none 0 0, .int .i64 (0), .int .i64 (0), .string (str [])] by simp)
  have hcw : ∀ i u, ([.int .i64 (kind), .slice none 0 0, .slice none 0 0, .string (str []), .slice none 0 0, .int .i64 (0), .int .i64 (0), .string (str [])])[i]? = some u → w9.cell? ⟨w.heap.size, i, none⟩ = some u := fun i u h => hs9.rcell (List.mem_cons_self ..) h
  refine bodyPost_ret (v := .agg ([.int .i64 (kind), .slice none 0 0, .slice none 0 0, .string (str []), .slice none 0 0, .int .i64 (0), .int .i64 (0), .string (str [])]).toArray) (results_cellA Tryz.results52 _ Tryz.aObj (g := w.heap.size) ([.int .i64 (kind), .slice none 0 0, .slice none 0 0, .string (str []), .slice none 0 0, .int .i64 (0), .int .i64 (0), .string (str [])]) ?_ rfl hcw) ?_ ⟨_, _, _, rfl, ((hs9.bare.addNil _ _).addNil _ _).addNil _ _⟩
  · first | (simp; done) | simp [Act.put]
  · first | (simp; done) | simp [Act.put]

set_option maxRecDepth 100000 in
set_option maxHeartbeats 1000000 in
theorem read_blob (v : Value) (l : List UInt8) (w : World) (hv : Sl w 1 v l.length (bs l)) (hl : l.length ≤ 140737488355328) :
    Calls Tryz.prog 52 #[.int .i64 1, v] w (ReadPost w (readO 1 l)) := by
  have hr : readO 1 l = ⟨1, l, [], str [], [], 0, 0, str []⟩ := by unfold readO; rw [if_pos rfl]
  rw [hr]
  have HCL := Mx.hid (fun wx (h : St w wx [] []) => clone_any v l wx (h.old hv) hl)
  obtain ⟨ao, cap, rfl, h1, h2, _⟩ := hv.bytes
  have HZ := Mx.hid (((St.refl w).madeAt ([.int .i64 (0), .slice none 0 0, .slice none 0 0, .string (str []), .slice none 0 0, .int .i64 (0), .int .i64 (0), .string (str [])]).toArray 72 8 1 w.heap.size rfl (by simp [maxLen]) rfl).madeAt ([.int .i64 (0), .slice none 0 0, .slice none 0 0, .string (str []), .slice none 0 0, .int .i64 (0), .int .i64 (0), .string (str [])]).toArray 72 8 1 (w.heap.size + 1) rfl (by simp [maxLen]) (by rw [heap_size_alloc]))
  clear hr hv
  go_enter Tryz.func52, Tryz.ntmps52
  go_wp2_with (first | (((with_reducible show wpList _ _ _ _ _ _); refine wpl_storeA rfl 72 _ _ rfl Tryz.aObj HZ.out (0) rfl ([.int .i64 (1), .slice none 0 0, .slice none 0 0, .string (str []), .slice none 0 0, .int .i64 (0), .int .i64 (0), .string (str [])]) rfl (by rfl) (by simp) (by intro u hu; simp at hu; rcases hu with rfl | rfl | rfl | rfl | rfl | rfl | rfl | rfl <;> rfl) ?_; intro w1 hs1); clear HZ) | (((with_reducible show wpList _ _ _ _ _ _); refine wpl_box rfl 130 _ rfl hs1 ([.slice ao l.length cap, .bool false]) (by rfl) ?_; intro gx w2 hs2)) | (go_at_call 59; refine (HCL.out _ hs2.bare).mono ?_; rintro e w3 ⟨x, rfl, hk⟩; obtain ⟨xo, xc, rfl, _⟩ := id hk.sl0; have hs3 := (hs2.call1 hk).perm (R' := [_, _, _, _]) (List.perm_append_comm (l₁ := [_, _]) (l₂ := [_, _]))) | (((with_reducible show wpList _ _ _ _ _ _); refine wpl_store1 rfl 25 _ _ rfl hs3 (1) rfl (.slice xo l.length xc) rfl rfl (by kernel_rfl) (by simp) rfl ?_; intro w4 hs4)) | ((with_reducible show wpList _ _ _ _ _ _); refine wpl_loadA rfl 72 _ rfl Tryz.aObj ((w.heap.size + 1)) (0) rfl ([.int .i64 (1), .slice xo l.length xc, .slice none 0 0, .string (str []), .slice none 0 0, .int .i64 (0), .int .i64 (0), .string (str [])]) rfl (fun i u h => by rw [Nat.zero_add]; exact hs4.rcell (List.mem_cons_self ..) h) ?_) | (((with_reducible show wpList _ _ _ _ _ _); refine wpl_storeA rfl 72 _ _ rfl Tryz.aObj (hs4.perm (List.Perm.swap _ _ _)) (0) rfl ([.int .i64 (1), .slice xo l.length xc, .slice none 0 0, .string (str []), .slice none 0 0, .int .i64 (0), .int .i64 (0), .string (str [])]) rfl (by rfl) (by simp) (by intro u hu; simp at hu; rcases hu with rfl | rfl | rfl | rfl | rfl | rfl | rfl | rfl <;> rfl) ?_; intro w9 hs9)))
  replace hs9 := hs9.cast rfl (show _ = [.int .i64 (1), .slice xo l.length xc, .slice none 0 0, .string (str []), .slice none 0 0, .int .i64 (0), .int .i64 (0), .string (str [])] by simp)
  have hcw : ∀ i u, ([.int .i64 (1), .slice xo l.length xc, .slice none 0 0, .string (str []), .slice none 0 0, .int .i64 (0), .int .i64 (0), .string (str [])])[i]? = some u → w9.cell? ⟨w.heap.size, i, none⟩ = some u := fun i u h => hs9.rcell (List.mem_cons_self ..) h
  refine bodyPost_ret (v := .agg ([.int .i64 (1), .slice xo l.length xc, .slice none 0 0, .string (str []), .slice none 0 0, .int .i64 (0), .int .i64 (0), .string (str [])]).toArray) (results_cellA Tryz.results52 _ Tryz.aObj (g := w.heap.size) ([.int .i64 (1), .slice xo l.length xc, .slice none 0 0, .string (str []), .slice none 0 0, .int .i64 (0), .int .i64 (0), .string (str [])]) ?_ rfl hcw) ?_ ⟨_, _, _, rfl, (hs9.perm (R' := [_, _, _, _]) (List.perm_append_comm (l₁ := [_, _]) (l₂ := [_, _]))).head.addNil _ _ |>.addNil _ _ |>.perm (R' := [_, _, _]) (List.perm_append_comm (l₁ := [_, _]) (l₂ := [_]))⟩
  · first | (simp; done) | simp [Act.put]
  · first | (simp; done) | simp [Act.put]
end Go.Proofs.YtlfdnlomlbbicaaGreatDoor
