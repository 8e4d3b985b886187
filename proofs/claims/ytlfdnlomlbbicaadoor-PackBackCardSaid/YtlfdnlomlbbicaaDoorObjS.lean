/- Walks of the source that an object is read from: take, one, number, hash. -/
import Derived.Test.YtlfdnlomlbbicaaDoorObjI
namespace Go.Mx
open Go Go.RowKit
theorem tk_stop {n : Nat} {l : List UInt8} {sh : Bool} (h : sh = true ∨ l.length < n) : tk n (l, sh) = ([], (l, true)) := by unfold tk; rw [if_pos h]
theorem tk_go {n : Nat} {l : List UInt8} (h : n ≤ l.length) : tk n (l, false) = (l.take n, (l.drop n, false)) := by unfold tk; rw [if_neg (by simp; omega)]
theorem getS_bounds (l : List UInt8) (h : (getS l 0).2.2 = 0) : (0 ≤ (getS l 0).1 ∧ (getS l 0).1 ≤ 72057594037927936) ∧ 0 ≤ (getS l 0).2.1 ∧ (getS l 0).2.1 ≤ l.length := by
  unfold getS at h ⊢
  by_cases h1 : (0 : Int) < 0 ∨ (l.length : Int) < 0
  · rw [if_pos h1] at h; cases h
  · rw [if_neg h1] at h ⊢
    by_cases h2 : (0 : Int).toNat + hiN (l.drop (0 : Int).toNat) = l.length
    · rw [if_pos h2] at h; cases h
    · rw [if_neg h2] at h ⊢
      split at h
      · cases h
      · rename_i h3
        rw [if_neg h3]
        have := hiN_le (l.drop (0 : Int).toNat)
        simp only [show (0 : Int).toNat = 0 from rfl, List.drop_zero, Nat.zero_add] at *
        refine ⟨⟨by omega, by omega⟩, by omega, by omega⟩
end Go.Mx
namespace Go.Proofs.YtlfdnlomlbbicaaDoor
open Go.RowKit Go.Mx

/-- What take leaves. -/
def TakePost (w0 : World) (R : List Row) (Q : List Rd) (g : Nat) (x : List UInt8) (s : Src) (e : Ending) (w' : World) : Prop :=
  ∃ vx v' : Value, e = .returned vx ∧ Sl w0 1 vx x.length (bs x) ∧ Sl w0 1 v' s.1.length (bs s.1) ∧ St w0 w' ((⟨.slice (some ⟨g, 0, none⟩) 1 1, 96, 2, 1, [v', .bool s.2]⟩ : Row) :: R) Q
/-- What the others leave. -/
def SrcPost (w0 : World) (R : List Row) (Q : List Rd) (g : Nat) (x : Value) (s : Src) (e : Ending) (w' : World) : Prop :=
  ∃ v' : Value, e = .returned x ∧ Sl w0 1 v' s.1.length (bs s.1) ∧ St w0 w' ((⟨.slice (some ⟨g, 0, none⟩) 1 1, 96, 2, 1, [v', .bool s.2]⟩ : Row) :: R) Q

set_option maxHeartbeats 1000000 in
theorem take_go {w0 w : World} {R : List Row} {Q : List Rd} {g : Nat} {v : Value} {sh : Bool} (l : List UInt8) (n : Nat) (hs : St w0 w ((⟨.slice (some ⟨g, 0, none⟩) 1 1, 96, 2, 1, [v, .bool sh]⟩ : Row) :: R) Q) (hl : Sl w0 1 v l.length (bs l)) (hn : n ≤ 72057594037927936) :
    Calls Tryd.prog 47 #[.pointer (some ⟨g, 0, none⟩), .int .i64 (n : Int)] w (TakePost w0 R Q g (tk n (l, sh)).1 (tk n (l, sh)).2) := by
  have c0 : w.cell? ⟨g, 0, none⟩ = some v := hs.cell (j := 0) rfl
  have c1 : w.cell? ⟨g, 1, none⟩ = some (.bool sh) := hs.cell (j := 1) rfl
  have HL := Mx.hid hl
  cases sh with
  | true =>
    rw [tk_stop (.inl rfl)]
    obtain ⟨ao, cap, rfl, h1, h2, _⟩ := hl.bytes
    unfold maxLen at h2
    clear hl
    go_enter Tryd.func47, Tryd.ntmps47
    go_wp2_with (first | ((with_reducible show wpList _ _ _ _ _ _); refine wpl_want rfl ?_) | ((with_reducible show wpList _ _ _ _ _ _); refine wpl_store1 rfl 4 _ _ rfl hs (1) rfl (.bool true) rfl rfl (by kernel_rfl) (by simp) rfl ?_; intro w1 hs1))
    go_ret
    exact ⟨_, _, rfl, Sl.nil _ 1, HL.out, hs1⟩
  | false =>
    by_cases hlt : l.length < n
    · rw [tk_stop (.inr hlt)]
      obtain ⟨ao, cap, rfl, h1, h2, _⟩ := hl.bytes
      unfold maxLen at h2
      have q1 : decide ((l.length : Int) < (n : Int)) = true := decide_eq_true (by omega)
      have q2 : decide (l.length < n) = true := decide_eq_true hlt
      clear hl hlt
      go_enter Tryd.func47, Tryd.ntmps47
      go_wp2_with (first | ((with_reducible show wpList _ _ _ _ _ _); refine wpl_want rfl ?_) | ((with_reducible show wpList _ _ _ _ _ _); refine wpl_store1 rfl 4 _ _ rfl hs (1) rfl (.bool true) rfl rfl (by kernel_rfl) (by simp) rfl ?_; intro w1 hs1))
      go_ret
      exact ⟨_, _, rfl, Sl.nil _ 1, HL.out, hs1⟩
    · rw [tk_go (by omega)]
      obtain ⟨xa, p2, q2⟩ := hl.cutRun Tryd.elU8 none (some (.int .i64 (n : Int))) 0 n (.inl ⟨rfl, rfl⟩) (.inr ⟨.i64, rfl⟩) (by omega) (by omega)
      obtain ⟨xb, p3, q3⟩ := hl.cutRun Tryd.elU8 (some (.int .i64 (n : Int))) none n l.length (.inr ⟨.i64, rfl⟩) (.inl ⟨rfl, rfl⟩) (by omega) (by omega)
      have ha := Sl.cutB (q2 _ hl) (by omega) (by omega)
      have hb := Sl.cutB (q3 _ hl) (by omega) (by omega)
      rw [List.drop_zero] at ha
      rw [List.take_length] at hb
      obtain ⟨aa, ac, rfl, _⟩ := id ha
      obtain ⟨ba, bc', rfl, _⟩ := id hb
      have HA := Mx.hid ha
      have HB := Mx.hid hb
      obtain ⟨ao, cap, rfl, h1, h2, _⟩ := hl.bytes
      unfold maxLen at h2
      have q1 : decide ((l.length : Int) < (n : Int)) = false := decide_eq_false (by omega)
      have q2 : decide (l.length < n) = false := decide_eq_false hlt
      have Hlt := Mx.hid hlt
      clear hl hlt ha hb
      have HP := Mx.hid (fun w' (h : St w0 w' ((⟨.slice (some ⟨g, 0, none⟩) 1 1, 96, 2, 1, [.slice ba (l.drop n).length bc', .bool false]⟩ : Row) :: R) Q) => (show TakePost w0 R Q g (l.take n) (l.drop n, false) (.returned (.slice aa (l.take n).length ac)) w' from ⟨_, _, rfl, HA.out, HB.out, h⟩))
      clear HA HB
      generalize l.take n = t1 at *
      generalize l.drop n = t2 at *
      generalize t1.length = n1 at *
      generalize t2.length = n2 at *
      go_enter Tryd.func47, Tryd.ntmps47
      go_wp2_with (first | ((with_reducible show wpList _ _ _ _ _ _); refine wpl_want rfl ?_) | ((with_reducible show wpList _ _ _ _ _ _); refine wpl_store1 rfl 25 _ _ rfl hs (0) rfl (.slice ba n2 bc') rfl rfl (by kernel_rfl) (by simp) rfl ?_; intro w1 hs1))
      go_ret
      exact HP.out _ hs1

set_option maxRecDepth 100000 in
theorem one_go {w0 w : World} {R : List Row} {Q : List Rd} {g : Nat} {v : Value} {sh : Bool} (l : List UInt8) (hs : St w0 w ((⟨.slice (some ⟨g, 0, none⟩) 1 1, 96, 2, 1, [v, .bool sh]⟩ : Row) :: R) Q) (hl : Sl w0 1 v l.length (bs l)) :
    Calls Tryd.prog 46 #[.pointer (some ⟨g, 0, none⟩)] w (SrcPost w0 R Q g (.int .i64 ((on (l, sh)).1 : Int)) (on (l, sh)).2) := by
  have HT := Mx.hid (take_go l 1 hs hl (by omega))
  unfold on
  generalize tk 1 (l, sh) = t at *
  obtain ⟨x, s⟩ := t
  simp only [] at *
  clear hs hl
  go_enter Tryd.func46, Tryd.ntmps46
  go_wp2_with fail
  refine HT.out.mono ?_
  rintro e w1 ⟨vx, v', rfl, hx, hv, hs1⟩
  have hx2 := hs1.old hx
  have HV := Mx.hid hv
  clear hv hx
  match x, hx2 with
  | [], hx2 =>
    obtain ⟨ao, cap, rfl, h1, h2, _⟩ := hx2.bytes
    clear hx2
    go_wp2_with fail
    go_ret
    exact ⟨_, rfl, HV.out, hs1⟩
  | y :: x, hx2 =>
    obtain ⟨ao, cap, blk, off, rfl, h1, h2, _, hc⟩ := hx2.byt
    obtain ⟨rfl, c0⟩ := hc 0 (by simp)
    clear hx2 hc
    simp only [Nat.add_zero, List.getElem_cons_zero, List.length_cons] at *
    have q1 : (((x.length + 1 : Nat) : Int) == 0) = false := by simp; omega
    have hy := u8_lt y
    have hw : wrap64 (y.toNat : Int) = (y.toNat : Int) := by unfold wrap64; omega
    go_wp2_with fail
    go_ret
    exact ⟨_, rfl, HV.out, hs1⟩

theorem srcHash_go {w0 w : World} {R : List Row} {Q : List Rd} {g : Nat} {v : Value} {sh : Bool} (l : List UInt8) (hs : St w0 w ((⟨.slice (some ⟨g, 0, none⟩) 1 1, 96, 2, 1, [v, .bool sh]⟩ : Row) :: R) Q) (hl : Sl w0 1 v l.length (bs l)) :
    Calls Tryd.prog 48 #[.pointer (some ⟨g, 0, none⟩)] w (SrcPost w0 R Q g (.string (Mx.hs (l, sh)).1) (Mx.hs (l, sh)).2) := by
  have HT := Mx.hid (take_go l 32 hs hl (by omega))
  have hx32 : (tk 32 (l, sh)).1.length ≤ 32 := by unfold tk; split <;> simp; omega
  unfold Mx.hs
  generalize tk 32 (l, sh) = t at *
  obtain ⟨x, s⟩ := t
  simp only [] at *
  clear hs hl
  go_enter Tryd.func48, Tryd.ntmps48
  go_wp2_with fail
  refine HT.out.mono ?_
  rintro e w1 ⟨vx, v', rfl, hx, hv, hs1⟩
  have HX := Mx.hid (fun wx (h : St w1 wx [] []) => shex_any vx x wx (h.old (hs1.old hx)) (by omega))
  have HV := Mx.hid hv
  clear hv hx
  go_wp2_with fail
  refine (HX.out _ (St.refl _)).mono ?_
  rintro e w2 ⟨rfl, hk⟩
  go_wp2_with fail
  go_ret
  exact ⟨_, rfl, HV.out, hs1.call0 hk⟩

set_option maxHeartbeats 1000000 in
theorem srcNumber_go {w0 w : World} {R : List Row} {Q : List Rd} {g : Nat} {v : Value} {sh : Bool} (l : List UInt8) (hs : St w0 w ((⟨.slice (some ⟨g, 0, none⟩) 1 1, 96, 2, 1, [v, .bool sh]⟩ : Row) :: R) Q) (hl : Sl w0 1 v l.length (bs l)) (hn : l.length ≤ 140737488355328) :
    Calls Tryd.prog 45 #[.pointer (some ⟨g, 0, none⟩)] w (SrcPost w0 R Q g (.int .i64 ((nm (l, sh)).1 : Int)) (nm (l, sh)).2) := by
  have c0 : w.cell? ⟨g, 0, none⟩ = some v := hs.cell (j := 0) rfl
  have HG := Mx.hid (get_any v l 0 w (hs.old hl) hn)
  have hg := getS_bounds l
  unfold GetPost at HG
  unfold nm
  have HT := Mx.hid (fun (wx : World) (n : Nat) (h : St w wx [] []) (hn : n ≤ 72057594037927936) => take_go l n (hs.call0 h) hl hn)
  simp only [] at *
  generalize getS l 0 = t at *
  obtain ⟨n, e, er⟩ := t
  simp only [] at *
  have HL := Mx.hid hl
  obtain ⟨ao, cap, rfl, h1, h2, _⟩ := hl.bytes
  clear hl
  by_cases her : er = 0
  · subst her
    rw [if_pos rfl]
    obtain ⟨⟨hn0, hn1⟩, he0, he1⟩ := hg rfl
    obtain ⟨n, rfl⟩ := Int.eq_ofNat_of_zero_le hn0
    obtain ⟨e, rfl⟩ := Int.eq_ofNat_of_zero_le he0
    have HT2 := Mx.hid (fun w1 hk => HT.out w1 e hk (by omega))
    simp only [Int.toNat_natCast] at *
    generalize tk e (l, sh) = t at *
    obtain ⟨x, s⟩ := t
    simp only [] at *
    clear hn0 he0 hn1 he1 hg
    go_enter Tryd.func45, Tryd.ntmps45
    go_wp2_with fail
    refine HG.out.mono ?_
    rintro e1 w1 ⟨rfl, hk⟩
    go_wp2_with fail
    refine (HT2.out _ hk).mono ?_
    rintro e2 w2 ⟨vx, v', rfl, hx, hv, hs2⟩
    have HV := Mx.hid hv
    clear hv hx
    go_wp2_with fail
    go_ret
    exact ⟨_, rfl, HV.out, hs2⟩
  · rw [if_neg her]
    have q1 : (er != 0) = true := by simpa using her
    clear hg her
    go_enter Tryd.func45, Tryd.ntmps45
    go_wp2_with fail
    refine HG.out.mono ?_
    rintro e1 w1 ⟨rfl, hk⟩
    have hs1 := hs.call0 hk
    go_wp2_with (first | ((with_reducible show wpList _ _ _ _ _ _); refine wpl_store1 rfl 4 _ _ rfl hs1 (1) rfl (.bool true) rfl rfl (by kernel_rfl) (by simp) rfl ?_; intro w2 hs2))
    go_ret
    exact ⟨_, rfl, HL.out, hs2⟩
end Go.Proofs.YtlfdnlomlbbicaaDoor
