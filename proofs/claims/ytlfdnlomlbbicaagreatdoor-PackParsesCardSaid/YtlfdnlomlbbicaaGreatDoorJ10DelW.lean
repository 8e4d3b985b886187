/- The walk of a delta's reader. The walk of one step. The walks of Sizes and Apply. The walk of Apply. -/
import Derived.Test.YtlfdnlomlbbicaaGreatDoorJ1WireP
import Derived.Test.YtlfdnlomlbbicaaGreatDoorJ7Wire
import Derived.Test.YtlfdnlomlbbicaaGreatDoorJ5RegC
import Derived.Test.YtlfdnlomlbbicaaGreatDoorJ4Lib3
namespace Go.Proofs.YtlfdnlomlbbicaaGreatDoor
open Go.RowKit Go.Mx

/-- The reader's variable. -/
abbrev rdr (g : Nat) (v : Value) (e : Int) : Row :=
  ⟨.slice (some ⟨g, 0, none⟩) 1 1, 156, 2, 1, [v, .int .i64 e]⟩

def NumPost (w0 : World) (R : List Row) (Q : List Rd) (g : Nat) (l : List UInt8) (e : Ending) (w' : World) : Prop :=
  ∃ v : Value, e = .returned (.int .i64 (nmN l : Int)) ∧ Sl w0 1 v (l.drop (nmJ l)).length (bs (l.drop (nmJ l))) ∧ St w0 w' (rdr g v (nmE l) :: R) Q

set_option maxHeartbeats 1000000 in
theorem dnumber_go (w0 w : World) (R : List Row) (Q : List Rd) (g : Nat) (v : Value) (l : List UInt8) (hs : St w0 w (rdr g v 0 :: R) Q) (hl : Sl w0 1 v l.length (bs l)) (hn : l.length ≤ 140737488355328) :
    Calls Tryz.prog 116 #[.pointer (some ⟨g, 0, none⟩)] w (NumPost w0 R Q g l) := by
  have c0 : w.cell? ⟨g, 0, none⟩ = some v := hs.rcell (List.mem_cons_self ..) rfl
  have c1 : w.cell? ⟨g, 1, none⟩ = some (.int .i64 0) := hs.rcell (List.mem_cons_self ..) rfl
  go_enter Tryz.func116, Tryz.ntmps116
  go_wp2_with fail
  refine (get_any v l 0 _ (hs.old hl) hn).mono ?_
  rintro e w1 ⟨rfl, hk⟩
  rw [nm_eq]
  have hs1 := hs.call0 hk
  have hJ : nmJ l ≤ l.length := by
    by_cases h : nmE l = 0
    · exact (nm_good h).2.1
    · rw [(nm_bad h).2]; omega
  obtain ⟨x, p1, q1⟩ := hl.cutRun Tryz.elU8 (some (.int .i64 (nmJ l : Int))) none (nmJ l) l.length (.inr ⟨.i64, rfl⟩) (.inl ⟨rfl, rfl⟩) hJ (Nat.le_refl _)
  have hx := Sl.cutB (q1 _ hl) (Nat.le_refl _) hJ
  rw [List.take_length] at hx
  generalize hXX : l.drop (nmJ l) = X at hx ⊢
  have HX := Mx.hid hx
  obtain ⟨xo, xc, rfl, _⟩ := hx
  generalize hXL : X.length = xl at *
  clear q1 hl c0 c1
  have c2 : w1.cell? ⟨g, 0, none⟩ = some v := hs1.rcell (List.mem_cons_self ..) rfl
  generalize hjj : (nmJ l : Int) = jj at p1 ⊢
  generalize hnn : (nmN l : Int) = nn
  generalize hee : nmE l = ee
  go_wp2_with (first | ((with_reducible show wpList _ _ _ _ _ _); refine wpl_store1 rfl 27 _ _ rfl hs1 (1) rfl (.int .i64 ee) rfl rfl (by kernel_rfl) (by simp) rfl ?_; intro w2 hs2); have c3 : w2.cell? ⟨g, 0, none⟩ = some v := hs2.rcell (List.mem_cons_self ..) rfl | ((with_reducible show wpList _ _ _ _ _ _); refine wpl_store1 rfl 25 _ _ rfl hs2 (0) rfl (.slice xo xl xc) rfl rfl (by kernel_rfl) (by simp) rfl ?_; intro w3 hs3))
  go_ret
  unfold NumPost
  rw [hXX, hXL, hnn, hee]
  exact ⟨.slice xo xl xc, rfl, HX.out, hs3⟩

/-- A reader that met an error says nothing. -/
theorem number_stop (w : World) (g : Nat) (e : Int) (c1 : w.cell? ⟨g, 1, none⟩ = some (.int .i64 e)) (he : e ≠ 0) :
    Calls Tryz.prog 116 #[.pointer (some ⟨g, 0, none⟩)] w fun r w' => r = .returned (.int .i64 0) ∧ St w w' [] [] := by
  have he' : (e != 0) = true := by simpa using he
  go_enter Tryz.func116, Tryz.ntmps116
  go_wp2_with fail
  go_ret
  exact ⟨rfl, St.refl _⟩
end Go.Proofs.YtlfdnlomlbbicaaGreatDoor

namespace Go.Proofs.YtlfdnlomlbbicaaGreatDoor
open Go.RowKit Go.Mx

def StepPost (w0 : World) (R : List Row) (Q : List Rd) (g : Nat) (base : List UInt8) (k : UInt8) (l : List UInt8) (e : Ending) (w' : World) : Prop :=
  ∃ (vx vl : Value) (e' : Int), e = .returned (.tuple #[vx, .int .i64 (stepR base k l).1]) ∧ Sl w0 1 vx (stepR base k l).2.1.length (bs (stepR base k l).2.1) ∧ St w0 w' (rdr g vl e' :: R) Q ∧
    ((stepR base k l).1 = 0 → e' = 0 ∧ Sl w0 1 vl (stepR base k l).2.2.length (bs (stepR base k l).2.2))

theorem step_open {w0 w : World} {v : Value} {k : UInt8} {l : List UInt8} (hw : Sl w 1 v (k :: l).length (bs (k :: l))) (hl : Sl w0 1 v (k :: l).length (bs (k :: l))) :
    ∃ (blk off cap : Nat) (xo : Option Addr) (xc : Nat), v = .slice (some ⟨blk, off, none⟩) (l.length + 1) cap ∧ l.length + 1 ≤ cap ∧ cap ≤ maxLen ∧ w.cell? ⟨blk, off, none⟩ = some (.int .u8 (k.toNat : Int)) ∧
      (∀ w', (Instr.sliceAt 25 v (some (.int .i64 1)) none none).run Tryz.prog w' = .ok (.slice xo l.length xc) w') ∧ Sl w0 1 (.slice xo l.length xc) l.length (bs l) := by
  obtain ⟨x, p1, q1⟩ := hl.cutRun Tryz.elU8 (some (.int .i64 ((1 : Nat) : Int))) none 1 (k :: l).length (.inr ⟨.i64, rfl⟩) (.inl ⟨rfl, rfl⟩) (by simp) (Nat.le_refl _)
  have hx := Sl.cutB (q1 _ hl) (Nat.le_refl _) (by simp)
  rw [List.take_length] at hx
  obtain ⟨xo, xc, rfl, _⟩ := id hx
  obtain ⟨ao, cap, rfl, h1, h2, _, hc⟩ := hw.bytes
  obtain ⟨blk, off, rfl, hcell⟩ := hc (by simp)
  exact ⟨blk, off, cap, xo, xc, rfl, h1, h2, hcell 0 (by simp), p1, hx⟩

set_option maxHeartbeats 1000000 in
theorem step_other (w0 w : World) (R : List Row) (Q : List Rd) (g : Nat) (v vb : Value) (base : List UInt8) (k : UInt8) (l : List UInt8) (hs : St w0 w (rdr g v 0 :: R) Q) (hl : Sl w0 1 v (k :: l).length (bs (k :: l)))
    (hk1 : k ≠ 1) (hk2 : k ≠ 2) :
    Calls Tryz.prog 117 #[.pointer (some ⟨g, 0, none⟩), vb] w (StepPost w0 R Q g base k l) := by
  have c0 : w.cell? ⟨g, 0, none⟩ = some v := hs.rcell (List.mem_cons_self ..) rfl
  obtain ⟨blk, off, cap, xo, xc, rfl, h1, h2, c1, p1, hx⟩ := step_open (hs.old hl) hl
  unfold maxLen at h2
  have e1 : ((k.toNat : Int) == 1) = false := by
    rw [beq_eq_false_iff_ne]; intro h; exact hk1 (UInt8.toNat_inj.1 (by simpa using (show k.toNat = 1 by omega)))
  have e2 : ((k.toNat : Int) == 2) = false := by
    rw [beq_eq_false_iff_ne]; intro h; exact hk2 (UInt8.toNat_inj.1 (by simpa using (show k.toNat = 2 by omega)))
  have hR : stepR base k l = (4, [], []) := by unfold stepR; rw [if_neg hk1, if_neg hk2]
  generalize (k.toNat : Int) = kk at *
  generalize hll : l.length = m at *
  clear hl
  have HX := Mx.hid hx
  clear hx
  go_enter Tryz.func117, Tryz.ntmps117
  go_wp2_with (first | ((with_reducible show wpList _ _ _ _ _ _); refine wpl_store1 rfl 25 _ _ rfl hs (0) rfl (.slice xo m xc) rfl rfl (by kernel_rfl) (by simp) rfl ?_; intro w1 hs1))
  go_ret2
  unfold StepPost
  rw [hR]
  exact ⟨_, _, _, rfl, Sl.nil _ 1, hs1, fun h => by simp at h⟩

set_option maxHeartbeats 1000000 in
theorem step_ins (w0 w : World) (R : List Row) (Q : List Rd) (g : Nat) (v vb : Value) (base l : List UInt8) (hs : St w0 w (rdr g v 0 :: R) Q) (hl : Sl w0 1 v ((2 : UInt8) :: l).length (bs ((2 : UInt8) :: l))) (hn : l.length ≤ 140737488355328) :
    Calls Tryz.prog 117 #[.pointer (some ⟨g, 0, none⟩), vb] w (StepPost w0 R Q g base 2 l) := by
  have c0 : w.cell? ⟨g, 0, none⟩ = some v := hs.rcell (List.mem_cons_self ..) rfl
  obtain ⟨blk, off, cap, xo, xc, rfl, h1, h2, c1, p1, hx⟩ := step_open (hs.old hl) hl
  unfold maxLen at h2
  change _ = some (Value.int IntKind.u8 2) at c1
  generalize hll : l.length = m at *
  clear hl
  go_enter Tryz.func117, Tryz.ntmps117
  go_wp2_with (first | ((with_reducible show wpList _ _ _ _ _ _); refine wpl_store1 rfl 25 _ _ rfl hs (0) rfl (.slice xo m xc) rfl rfl (by kernel_rfl) (by simp) rfl ?_; intro w1 hs1))
  refine (dnumber_go w0 w1 R Q g (.slice xo m xc) l hs1 (by rw [hll]; exact hx) (by omega)).mono ?_
  rintro e w2 ⟨v2, rfl, hv2, hs2⟩
  have hSR : stepR base 2 l = if nmE l ≠ 0 then (nmE l, [], []) else if nmN l = 0 then (4, [], []) else if (l.drop (nmJ l)).length < nmN l then (2, [], []) else (0, (l.drop (nmJ l)).take (nmN l), (l.drop (nmJ l)).drop (nmN l)) := by
    unfold stepR; rw [if_neg (by decide), if_pos rfl]
  have hnm : nmN l ≤ 72057594037927936 := by
    by_cases h : nmE l = 0
    · exact (nm_good h).1
    · rw [(nm_bad h).1]; omega
  have hdl : (l.drop (nmJ l)).length ≤ l.length := by rw [List.length_drop]; omega
  clear hs hs1 c0 c1 p1 hx
  have ce : w2.cell? ⟨g, 1, none⟩ = some (.int .i64 (nmE l)) := hs2.rcell (List.mem_cons_self ..) rfl
  have cb : w2.cell? ⟨g, 0, none⟩ = some v2 := hs2.rcell (List.mem_cons_self ..) rfl
  generalize l.drop (nmJ l) = l2 at *
  generalize nmE l = ee at *
  generalize nmN l = nn at *
  have HV := Mx.hid hv2
  by_cases hee : ee = 0
  · subst hee
    rw [if_neg (by simp)] at hSR
    by_cases hnn : nn = 0
    · subst hnn
      rw [if_pos rfl] at hSR
      have HS := Mx.hid hSR
      clear hSR hv2
      go_wp2_with fail
      go_ret2
      unfold StepPost
      rw [HS.out]
      exact ⟨_, _, _, rfl, Sl.nil _ 1, hs2, fun h => by simp at h⟩
    · rw [if_neg hnn] at hSR
      have b1 : ((nn : Int) == 0) = false := by rw [beq_eq_false_iff_ne]; omega
      obtain ⟨ao, bc, rfl, _⟩ := id hv2
      generalize hm2 : l2.length = m2 at *
      by_cases hsh : m2 < nn
      · rw [if_pos hsh] at hSR
        have b2 : (m2 : Int) < (nn : Int) := by omega
        have HS := Mx.hid hSR
        clear hSR hv2 hsh hnn
        go_wp2_with fail
        go_ret2
        unfold StepPost
        rw [HS.out]
        exact ⟨_, _, _, rfl, Sl.nil _ 1, hs2, fun h => by simp at h⟩
      · rw [if_neg hsh] at hSR
        have b2 : ¬ ((m2 : Int) < (nn : Int)) := by omega
        obtain ⟨xa, p2, q2⟩ := hv2.cutRun Tryz.elU8 none (some (.int .i64 (nn : Int))) 0 nn (.inl ⟨rfl, rfl⟩) (.inr ⟨.i64, rfl⟩) (by omega) (by omega)
        obtain ⟨xb, p3, q3⟩ := hv2.cutRun Tryz.elU8 (some (.int .i64 (nn : Int))) none nn m2 (.inr ⟨.i64, rfl⟩) (.inl ⟨rfl, rfl⟩) (by omega) (by omega)
        have ha := Sl.cutB (q2 _ hv2) (by omega) (by omega)
        have hb := Sl.cutB (q3 _ hv2) (by omega) (by omega)
        rw [List.drop_zero] at ha
        rw [← hm2, List.take_length] at hb
        obtain ⟨aa, ac, rfl, _⟩ := id ha
        obtain ⟨ba, bc', rfl, _⟩ := id hb
        have HS := Mx.hid hSR
        have HA := Mx.hid ha
        have HB := Mx.hid hb
        generalize ht1 : (l2.take nn).length = t1 at *
        generalize ht2 : (l2.drop nn).length = t2 at *
        clear hSR hv2 hsh hnn ha hb q2 q3
        go_wp2_with ((with_reducible show wpList _ _ _ _ _ _); refine wpl_store1 rfl 25 _ _ rfl hs2 (0) rfl (.slice ba t2 bc') rfl rfl (by kernel_rfl) (by simp) rfl ?_; intro w3 hs3)
        go_ret2
        unfold StepPost
        rw [HS.out]
        simp only []
        rw [ht1, ht2]
        exact ⟨_, _, 0, rfl, HA.out, hs3, fun _ => ⟨rfl, HB.out⟩⟩
  · rw [if_pos hee] at hSR
    have b1 : (ee != 0) = true := by simpa using hee
    have HS := Mx.hid hSR
    clear hSR hv2
    go_wp2_with fail
    go_quiet (fail)
    go_wp2_with fail
    go_ret2
    unfold StepPost
    rw [HS.out]
    exact ⟨_, _, _, rfl, Sl.nil _ 1, by first | exact hs2.drewN _ | exact (hs2.drewN _).drew, fun h => absurd h hee⟩

set_option maxHeartbeats 2000000 in
theorem step_copy (w0 w : World) (R : List Row) (Q : List Rd) (g : Nat) (v vb : Value) (base l : List UInt8) (hs : St w0 w (rdr g v 0 :: R) Q) (hl : Sl w0 1 v ((1 : UInt8) :: l).length (bs ((1 : UInt8) :: l))) (hn : l.length ≤ 140737488355328)
    (hbase : Sl w0 1 vb base.length (bs base)) (hbl : base.length ≤ 140737488355328) :
    Calls Tryz.prog 117 #[.pointer (some ⟨g, 0, none⟩), vb] w (StepPost w0 R Q g base 1 l) := by
  have c0 : w.cell? ⟨g, 0, none⟩ = some v := hs.rcell (List.mem_cons_self ..) rfl
  obtain ⟨blk, off, cap, xo, xc, rfl, h1, h2, c1, p1, hx⟩ := step_open (hs.old hl) hl
  unfold maxLen at h2
  change _ = some (Value.int IntKind.u8 1) at c1
  generalize hll : l.length = m at *
  clear hl
  go_enter Tryz.func117, Tryz.ntmps117
  go_wp2_with (first | ((with_reducible show wpList _ _ _ _ _ _); refine wpl_store1 rfl 25 _ _ rfl hs (0) rfl (.slice xo m xc) rfl rfl (by kernel_rfl) (by simp) rfl ?_; intro w1 hs1))
  refine (dnumber_go w0 w1 R Q g (.slice xo m xc) l hs1 (by rw [hll]; exact hx) (by omega)).mono ?_
  rintro e w2 ⟨v2, rfl, hv2, hs2⟩
  have hSR : stepR base 1 l = if nmE l ≠ 0 then (nmE l, [], []) else
    if nmE (l.drop (nmJ l)) ≠ 0 then (nmE (l.drop (nmJ l)), [], []) else
    if nmN (l.drop (nmJ l)) = 0 then (4, [], []) else
    if base.length < nmN l ∨ base.length - nmN l < nmN (l.drop (nmJ l)) then (1, [], []) else
    (0, (base.take (nmN l + nmN (l.drop (nmJ l)))).drop (nmN l), (l.drop (nmJ l)).drop (nmJ (l.drop (nmJ l)))) := by
    unfold stepR; rw [if_pos rfl]
  have hnm : nmN l ≤ 72057594037927936 := by
    by_cases h : nmE l = 0
    · exact (nm_good h).1
    · rw [(nm_bad h).1]; omega
  have hdl : (l.drop (nmJ l)).length ≤ l.length := by rw [List.length_drop]; omega
  clear hs hs1 c0 c1 p1 hx
  have ce : w2.cell? ⟨g, 1, none⟩ = some (.int .i64 (nmE l)) := hs2.rcell (List.mem_cons_self ..) rfl
  generalize l.drop (nmJ l) = l2 at *
  generalize nmE l = ee at *
  generalize nmN l = pl at *
  by_cases hee : ee = 0
  · subst hee
    rw [if_neg (by simp)] at hSR
    clear ce
    have HSR := Mx.hid hSR
    clear hSR
    go_wp2_with fail
    refine (dnumber_go w0 w2 R Q g v2 l2 hs2 hv2 (by omega)).mono ?_
    rintro e w3 ⟨v3, rfl, hv3, hs3⟩
    have hSR := HSR.out
    have hnm2 : nmN l2 ≤ 72057594037927936 := by
      by_cases h : nmE l2 = 0
      · exact (nm_good h).1
      · rw [(nm_bad h).1]; omega
    clear HSR hs2 hv2
    have ce : w3.cell? ⟨g, 1, none⟩ = some (.int .i64 (nmE l2)) := hs3.rcell (List.mem_cons_self ..) rfl
    generalize l2.drop (nmJ l2) = l3 at *
    generalize nmE l2 = e2 at *
    generalize nmN l2 = nn at *
    have HV := Mx.hid hv3
    clear hv3
    by_cases he2 : e2 = 0
    · subst he2
      rw [if_neg (by simp)] at hSR
      by_cases hnn : nn = 0
      · subst hnn
        rw [if_pos rfl] at hSR
        have HS := Mx.hid hSR
        clear hSR
        go_wp2_with fail
        go_ret2
        unfold StepPost
        rw [HS.out]
        exact ⟨_, _, _, rfl, Sl.nil _ 1, hs3, fun h => by simp at h⟩
      · rw [if_neg hnn] at hSR
        have b1 : ((nn : Int) == 0) = false := by rw [beq_eq_false_iff_ne]; omega
        obtain ⟨ao, bc, rfl, _⟩ := id hbase
        generalize hmb : base.length = mb at *
        by_cases hr1 : mb < pl
        · rw [if_pos (.inl hr1)] at hSR
          have b2 : (mb : Int) < (pl : Int) := by omega
          have HS := Mx.hid hSR
          clear hSR hnn hr1
          go_wp2_with fail
          go_ret2
          unfold StepPost
          rw [HS.out]
          exact ⟨_, _, _, rfl, Sl.nil _ 1, hs3, fun h => by simp at h⟩
        · by_cases hr2 : mb - pl < nn
          · rw [if_pos (.inr hr2)] at hSR
            have b2 : ¬ ((mb : Int) < (pl : Int)) := by omega
            have b3 : (mb : Int) - (pl : Int) < (nn : Int) := by omega
            have HS := Mx.hid hSR
            clear hSR hnn hr1 hr2
            go_wp2_with fail
            go_ret2
            unfold StepPost
            rw [HS.out]
            exact ⟨_, _, _, rfl, Sl.nil _ 1, hs3, fun h => by simp at h⟩
          · rw [if_neg (by omega)] at hSR
            have b2 : ¬ ((mb : Int) < (pl : Int)) := by omega
            have b3 : ¬ ((mb : Int) - (pl : Int) < (nn : Int)) := by omega
            obtain ⟨xa, p2, q2⟩ := hbase.cutRun Tryz.elU8 (some (.int .i64 (pl : Int))) (some (.int .i64 ((pl : Int) + (nn : Int)))) pl (pl + nn) (.inr ⟨.i64, rfl⟩) (.inr ⟨.i64, by push_cast; rfl⟩) (by omega) (by omega)
            have ha := Sl.cutB (q2 _ hbase) (by omega) (by omega)
            obtain ⟨aa, ac, rfl, _⟩ := id ha
            have HS := Mx.hid hSR
            have HA := Mx.hid ha
            generalize ht1 : ((base.take (pl + nn)).drop pl).length = t1 at *
            clear hSR hnn hr1 hr2 ha q2
            go_wp2_with fail
            go_ret2
            unfold StepPost
            rw [HS.out]
            simp only []
            rw [ht1]
            exact ⟨_, _, 0, rfl, HA.out, hs3, fun _ => ⟨rfl, HV.out⟩⟩
    · rw [if_pos he2] at hSR
      have b1 : (e2 != 0) = true := by simpa using he2
      have HS := Mx.hid hSR
      clear hSR
      go_wp2_with fail
      go_quiet (fail)
      go_wp2_with fail
      go_ret2
      unfold StepPost
      rw [HS.out]
      exact ⟨_, _, _, rfl, Sl.nil _ 1, by first | exact hs3.drewN _ | exact (hs3.drewN _).drew, fun h => absurd h he2⟩
  · rw [if_pos hee] at hSR
    have b1 : (ee != 0) = true := by simpa using hee
    have HS := Mx.hid hSR
    clear hSR hv2
    go_wp2_with fail
    refine (number_stop w2 g ee ce hee).mono ?_
    rintro e w3 ⟨rfl, hk⟩
    have hs3 := hs2.call0 hk
    have ce3 : w3.cell? ⟨g, 1, none⟩ = some (.int .i64 ee) := hs3.rcell (List.mem_cons_self ..) rfl
    clear ce
    go_wp2_with fail
    go_quiet (fail)
    go_wp2_with fail
    go_ret2
    unfold StepPost
    rw [HS.out]
    exact ⟨_, _, _, rfl, Sl.nil _ 1, by first | exact hs3.drewN _ | exact (hs3.drewN _).drew, fun h => absurd h hee⟩

theorem step_any (w0 w : World) (R : List Row) (Q : List Rd) (g : Nat) (v vb : Value) (base : List UInt8) (k : UInt8) (l : List UInt8) (hs : St w0 w (rdr g v 0 :: R) Q) (hl : Sl w0 1 v (k :: l).length (bs (k :: l))) (hn : l.length ≤ 140737488355328)
    (hbase : Sl w0 1 vb base.length (bs base)) (hbl : base.length ≤ 140737488355328) :
    Calls Tryz.prog 117 #[.pointer (some ⟨g, 0, none⟩), vb] w (StepPost w0 R Q g base k l) := by
  by_cases h1 : k = 1
  · subst h1; exact step_copy w0 w R Q g v vb base l hs hl hn hbase hbl
  · by_cases h2 : k = 2
    · subst h2; exact step_ins w0 w R Q g v vb base l hs hl hn
    · exact step_other w0 w R Q g v vb base k l hs hl h1 h2
end Go.Proofs.YtlfdnlomlbbicaaGreatDoor

namespace Go.Proofs.YtlfdnlomlbbicaaGreatDoor
open Go.RowKit Go.Mx

def SizesPost (w : World) (d : List UInt8) (e : Ending) (w' : World) : Prop :=
  e = .returned (.tuple #[.int .i64 (szA d : Int), .int .i64 (szB d : Int), .int .i64 (szE d)]) ∧ St w w' [] []

end Go.Proofs.YtlfdnlomlbbicaaGreatDoor

namespace Go.Proofs.YtlfdnlomlbbicaaGreatDoor
open Go.RowKit Go.Mx

theorem stepsR_nil (base : List UInt8) (to : Nat) (out : List UInt8) : stepsR base to [] out = if out.length < to then (2, []) else (0, out) := by rw [stepsR]
theorem stepsR_cons (base : List UInt8) (to : Nat) (k : UInt8) (l out : List UInt8) : stepsR base to (k :: l) out =
    if (stepR base k l).1 ≠ 0 then ((stepR base k l).1, []) else if (to : Int) - out.length < (stepR base k l).2.1.length then (3, []) else stepsR base to (stepR base k l).2.2 (out ++ (stepR base k l).2.1) := by rw [stepsR]

def ApplyPost (w : World) (base d : List UInt8) (e : Ending) (w' : World) : Prop :=
  ∃ v, e = .returned (.tuple #[v, .int .i64 (apR base d).1]) ∧ St w w' [⟨v, 5, 1, (apR base d).2.length, bs (apR base d).2⟩] []
theorem ApplyPost.bad {w w' : World} {base d : List UInt8} {x : Int} (h : apR base d = (x, [])) (hs : St w w' [] []) : ApplyPost w base d (.returned (.tuple #[.slice none 0 0, .int .i64 x])) w' := by
  unfold ApplyPost
  rw [h]
  exact ⟨_, rfl, hs.addNil _ _⟩

def lenAt (w : World) (g : Nat) : Nat := match w.cell? ⟨g, 0, none⟩ with | some (.slice _ n _) => n | _ => 0

theorem lenAt_eq {w0 w : World} {R : List Row} {Q : List Rd} {g : Nat} {v : Value} {e : Int} {n : Nat} {xs : List Value} (hs : St w0 w (rdr g v e :: R) Q) (hv : Sl w0 1 v n xs) : lenAt w g = n := by
  obtain ⟨ao, ac, rfl, _⟩ := hv
  have c0 : w.cell? ⟨g, 0, none⟩ = some (.slice ao n ac) := hs.rcell (List.mem_cons_self ..) rfl
  unfold lenAt
  rw [c0]

set_option maxHeartbeats 4000000 in
theorem apply_any (w : World) (vb vd : Value) (base d : List UInt8) (hb : Sl w 1 vb base.length (bs base)) (hd : Sl w 1 vd d.length (bs d)) (hbl : base.length ≤ 140737488355328) (hn : d.length ≤ 140737488355328) :
    Calls Tryz.prog 96 #[vb, vd] w (ApplyPost w base d) := by
  obtain ⟨ao, ac, rfl, _⟩ := id hd
  obtain ⟨bo, bc, rfl, _⟩ := id hb
  have hAP : apR base d = if szE d ≠ 0 then (szE d, []) else if szA d ≠ base.length then (5, []) else if 20000 < szB d then (3, []) else stepsR base (szB d) (szR d) [] := rfl
  have hE : szE d = if nmE d ≠ 0 then nmE d else nmE (d.drop (nmJ d)) := rfl
  have hA : szA d = if szE d = 0 then nmN d else 0 := rfl
  have hB : szB d = if szE d = 0 then nmN (d.drop (nmJ d)) else 0 := rfl
  have hRR : szR d = (d.drop (nmJ d)).drop (nmJ (d.drop (nmJ d))) := rfl
  rw [hA, hB, hRR] at hAP
  rw [hE] at hAP
  clear hA hB hRR hE
  have HB := Mx.hid hb
  generalize hbb : base.length = bl at *
  go_enter Tryz.func96, Tryz.ntmps96
  go_wp2_with fail
  have hs0 : St w (w.alloc (Obj.cells #[.slice ao d.length ac, .int .i64 0] 156)) [rdr w.heap.size (.slice ao d.length ac) 0] [] := (St.refl w).made #[.slice ao d.length ac, .int .i64 0] 156 2 1 rfl (by simp [maxLen])
  generalize w.alloc (Obj.cells #[.slice ao d.length ac, .int .i64 0] 156) = w1 at hs0 ⊢
  generalize w.heap.size = g at *
  refine (dnumber_go w w1 [] [] g _ d hs0 hd hn).mono ?_
  rintro e w2 ⟨v2, rfl, hv2, hs2⟩
  have ce : w2.cell? ⟨g, 1, none⟩ = some (.int .i64 (nmE d)) := hs2.rcell (List.mem_cons_self ..) rfl
  have hdl : (d.drop (nmJ d)).length ≤ d.length := by rw [List.length_drop]; omega
  have hnm : nmN d ≤ 72057594037927936 := by
    by_cases h : nmE d = 0
    · exact (nm_good h).1
    · rw [(nm_bad h).1]; omega
  have hnm2 : nmN (d.drop (nmJ d)) ≤ 72057594037927936 := by
    by_cases h : nmE (d.drop (nmJ d)) = 0
    · exact (nm_good h).1
    · rw [(nm_bad h).1]; omega
  have hdl2 : ((d.drop (nmJ d)).drop (nmJ (d.drop (nmJ d)))).length ≤ d.length := by simp only [List.length_drop]; omega
  generalize nmN d = pl at *
  generalize d.drop (nmJ d) = l2 at *
  generalize nmE d = ee at *
  clear hs0 hd hb
  by_cases hee : ee = 0
  · subst hee
    clear ce
    have HAP := Mx.hid hAP
    clear hAP
    go_wp2_with fail
    refine (dnumber_go w w2 [] [] g v2 l2 hs2 hv2 (by omega)).mono ?_
    rintro e w3 ⟨v3, rfl, hv3, hs3⟩
    have ce : w3.cell? ⟨g, 1, none⟩ = some (.int .i64 (nmE l2)) := hs3.rcell (List.mem_cons_self ..) rfl
    have hAP := HAP.out
    generalize nmN l2 = nn at *
    generalize nmE l2 = e2 at *
    generalize l2.drop (nmJ l2) = l3 at *
    clear hv2 hs2 HAP
    simp only [ne_eq, not_true_eq_false, ite_false] at hAP
    have HV := Mx.hid hv3
    by_cases he2 : e2 = 0
    · subst he2
      simp only [not_true_eq_false, if_false, if_true] at hAP
      by_cases h1 : pl = bl
      · rw [if_neg (by omega)] at hAP
        by_cases h2 : 20000 < nn
        · rw [if_pos h2] at hAP
          have b1 : ((pl : Int) != (bl : Int)) = false := by rw [bne_eq_false_iff_eq]; omega
          have b2 : (20000 : Int) < (nn : Int) := by omega
          have HS := Mx.hid hAP
          clear hAP h1 h2 hv3
          go_wp2_with fail
          go_ret2
          exact ApplyPost.bad HS.out hs3.bare
        · rw [if_neg h2] at hAP
          have b1 : ((pl : Int) != (bl : Int)) = false := by rw [bne_eq_false_iff_eq]; omega
          have b2 : ¬ ((20000 : Int) < (nn : Int)) := by omega
          have HS := Mx.hid hAP
          clear hAP h1
          have hnn : nn ≤ 20000 := by omega
          go_wp2_with fail
          have hsL : St w w3 [rdr g v3 0, ⟨.slice none 0 0, 5, 1, 0, []⟩] [] := (hs3.addNil _ _).swap
          have hl0 := lenAt_eq hs3 hv3
          clear hs3 ce hv3 b1 b2 h2
          go_loopw [9] (fun x wr => ∃ (vr : Value) (lr out : List UInt8), lr.length = lenAt wr g ∧ out.length ≤ nn ∧ Hid (stepsR base nn l3 [] = stepsR base nn lr out) ∧ lr.length ≤ d.length ∧ Hid (Sl w 1 vr lr.length (bs lr)) ∧ St w wr [rdr g vr 0, ⟨x, 5, 1, out.length, bs out⟩] []) (fun _ wr => lenAt wr g)
          case atStart => exact ⟨v3, l3, [], hl0.symm, by simp, rfl, by omega, HV.out, hsL⟩
          case round =>
            obtain ⟨vr, lr, out, hla, hol, He, hll, hvr, hs⟩ := hrel
            have c0 : wr.cell? ⟨g, 0, none⟩ = some vr := hs.rcell (List.mem_cons_self ..) rfl
            obtain ⟨xo, xc, rfl, _⟩ := id hvr.out
            obtain ⟨oo, oc, rfl, _⟩ := id (hs.sl1)
            cases lr with
            | nil =>
              change _ = some (Value.slice xo 0 xc) at c0
              have hst := HS.out.trans He.out
              rw [stepsR_nil] at hst
              by_cases hlt : out.length < nn
              · rw [if_pos hlt] at hst
                have Hst := Mx.hid hst
                have hlt' : (out.length : Int) < (nn : Int) := by omega
                clear hst hlt
                go_wp2_with fail
                go_ret2
                exact ApplyPost.bad Hst.out hs.bare
              · rw [if_neg hlt] at hst
                have Hst := Mx.hid hst
                have hlt' : ¬ ((out.length : Int) < (nn : Int)) := by omega
                generalize hol' : out.length = ol at *
                clear hst hlt
                go_wp2_with fail
                go_ret2
                unfold ApplyPost
                rw [Hst.out]
                simp only []
                rw [hol']
                exact ⟨_, rfl, hs.tail⟩
            | cons k l =>
              have hpos : (0 : Int) < (((k :: l).length : Nat) : Int) := by simp only [List.length_cons]; omega
              have hst := HS.out.trans He.out
              rw [stepsR_cons] at hst
              have Hst := Mx.hid hst
              have hlk : l.length + 1 = lenAt wr g := by simpa using hla
              have hll' : l.length + 1 ≤ d.length := by simpa using hll
              have hlc : (k :: l).length = l.length + 1 := rfl
              generalize hkl : (k :: l).length = kl at *
              clear hst
              go_wp2_with fail
              refine (step_any w wr [_] [] g _ _ base k l hs (by rw [hkl]; exact hvr.out) (by omega) (by rw [hbb]; exact HB.out) (by omega)).mono ?_
              rintro e w5 ⟨vx, vl, e', rfl, hvx, hs5, hgood⟩
              have hst := Hst.out
              have hsl := stepR_len base k l
              generalize (stepR base k l).1 = se at *
              generalize (stepR base k l).2.1 = sx at *
              generalize (stepR base k l).2.2 = sl at *
              clear Hst hs c0
              obtain ⟨yo, yc, rfl, _⟩ := id hvx
              by_cases hse : se = 0
              · subst hse
                obtain ⟨rfl, hvl⟩ := hgood rfl
                rw [if_neg (by simp)] at hst
                clear hgood
                have hsw := hs5.swap
                have HVX := Mx.hid hvx
                have HVL := Mx.hid hvl
                clear hvx hvl
                by_cases hlong : (nn : Int) - out.length < sx.length
                · rw [if_pos hlong] at hst
                  have Hst := Mx.hid hst
                  clear hst
                  generalize hsxl : sx.length = sn at *
                  generalize hol' : out.length = ol at *
                  go_wp2_with fail
                  go_ret2
                  exact ApplyPost.bad Hst.out hs5.bare
                · rw [if_neg hlong] at hst
                  have Hst := Mx.hid hst
                  clear hst
                  have hob : out.length + sx.length ≤ 20000 := by omega
                  generalize hsxl : sx.length = sn at *
                  generalize hol' : out.length = ol at *
                  go_wp2_with (at_builtin; refine wpl_app rfl _ _ 25 rfl Tryz.elU8 hsw rfl (by exact hs5.old HVX.out) (bs_one _) (by omega) ?_; intro v9 w9 hs9 _)
                  have hs10 := hs9.swap
                  have hl9 := lenAt_eq hs10 HVL.out
                  go_roundw
                  case rel => exact ⟨vl, sl, out ++ sx, hl9.symm, by rw [List.length_append]; omega, Mx.hid (HS.out.symm.trans Hst.out), by omega, HVL, by rw [List.length_append, hol', hsxl, bs_app]; exact hs10⟩
                  case measure => omega
              · rw [if_pos hse] at hst
                have b1 : (se != 0) = true := by simpa using hse
                have Hst := Mx.hid hst
                clear hst hgood
                go_wp2_with fail
                go_ret2
                exact ApplyPost.bad Hst.out hs5.bare
      · rw [if_pos (by omega)] at hAP
        have b1 : ((pl : Int) != (bl : Int)) = true := by simp; omega
        have HS := Mx.hid hAP
        clear hAP h1 hv3
        go_wp2_with fail
        go_ret2
        exact ApplyPost.bad HS.out hs3.bare
    · have b1 : (e2 != 0) = true := by simpa using he2
      rw [if_pos he2] at hAP
      have HS := Mx.hid hAP
      clear hAP hv3
      go_wp2_with fail
      go_quiet (fail)
      go_wp2_with fail
      go_ret2
      exact ApplyPost.bad HS.out (by first | exact (hs3.drewN _).bare | exact (hs3.drewN _).drew.bare)
  · have b1 : (ee != 0) = true := by simpa using hee
    rw [if_pos hee, if_pos hee] at hAP
    have HS := Mx.hid hAP
    clear hAP
    go_wp2_with fail
    refine (number_stop w2 g ee ce hee).mono ?_
    rintro e w3 ⟨rfl, hk⟩
    have hs3 := hs2.call0 hk
    have ce3 : w3.cell? ⟨g, 1, none⟩ = some (.int .i64 ee) := hs3.rcell (List.mem_cons_self ..) rfl
    clear ce
    go_wp2_with fail
    go_quiet (fail)
    go_wp2_with fail
    go_ret2
    exact ApplyPost.bad HS.out (by first | exact (hs3.drewN _).bare | exact (hs3.drewN _).drew.bare)
end Go.Proofs.YtlfdnlomlbbicaaGreatDoor
