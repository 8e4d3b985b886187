/- The walk of one step. -/
import Derived.Test.YtlfdnlomlbbicaaDoorJ7WireK
namespace Go.Proofs.YtlfdnlomlbbicaaDoor
open Go.RowKit Go.Mx

def StepPost (w0 : World) (R : List Row) (Q : List Rd) (g : Nat) (base : List UInt8) (k : UInt8) (l : List UInt8) (e : Ending) (w' : World) : Prop :=
  ∃ (vx vl : Value) (e' : Int), e = .returned (.tuple #[vx, .int .i64 (stepR base k l).1]) ∧ Sl w0 1 vx (stepR base k l).2.1.length (bs (stepR base k l).2.1) ∧ St w0 w' (rdr g vl e' :: R) Q ∧
    ((stepR base k l).1 = 0 → e' = 0 ∧ Sl w0 1 vl (stepR base k l).2.2.length (bs (stepR base k l).2.2))

theorem step_open {w0 w : World} {v : Value} {k : UInt8} {l : List UInt8} (hw : Sl w 1 v (k :: l).length (bs (k :: l))) (hl : Sl w0 1 v (k :: l).length (bs (k :: l))) :
    ∃ (blk off cap : Nat) (xo : Option Addr) (xc : Nat), v = .slice (some ⟨blk, off, none⟩) (l.length + 1) cap ∧ l.length + 1 ≤ cap ∧ cap ≤ maxLen ∧ w.cell? ⟨blk, off, none⟩ = some (.int .u8 (k.toNat : Int)) ∧
      (∀ w', (Instr.sliceAt 25 v (some (.int .i64 1)) none none).run Tryd.prog w' = .ok (.slice xo l.length xc) w') ∧ Sl w0 1 (.slice xo l.length xc) l.length (bs l) := by
  obtain ⟨x, p1, q1⟩ := hl.cutRun Tryd.elU8 (some (.int .i64 ((1 : Nat) : Int))) none 1 (k :: l).length (.inr ⟨.i64, rfl⟩) (.inl ⟨rfl, rfl⟩) (by simp) (Nat.le_refl _)
  have hx := Sl.cutB (q1 _ hl) (Nat.le_refl _) (by simp)
  rw [List.take_length] at hx
  obtain ⟨xo, xc, rfl, _⟩ := id hx
  obtain ⟨ao, cap, rfl, h1, h2, _, hc⟩ := hw.bytes
  obtain ⟨blk, off, rfl, hcell⟩ := hc (by simp)
  exact ⟨blk, off, cap, xo, xc, rfl, h1, h2, hcell 0 (by simp), p1, hx⟩

set_option maxHeartbeats 1000000 in
theorem step_other (w0 w : World) (R : List Row) (Q : List Rd) (g : Nat) (v vb : Value) (base : List UInt8) (k : UInt8) (l : List UInt8) (hs : St w0 w (rdr g v 0 :: R) Q) (hl : Sl w0 1 v (k :: l).length (bs (k :: l)))
    (hk1 : k ≠ 1) (hk2 : k ≠ 2) :
    Calls Tryd.prog 78 #[.pointer (some ⟨g, 0, none⟩), vb] w (StepPost w0 R Q g base k l) := by
  have c0 : w.cell? ⟨g, 0, none⟩ = some v := hs.rcell (List.mem_cons_self ..) rfl
  obtain ⟨blk, off, cap, xo, xc, rfl, h1, h2, c1, p1, hx⟩ := step_open (hs.old hl) hl
  unfold maxLen at h2
  have e1 : ((k.toNat : Int) == 1) = false := by
    rw [beq_eq_false_iff_ne]; intro h; exact hk1 (UInt8.toNat_inj.1 (by simpa using (show k.toNat = 1 by omega)))
  have e2 : ((k.toNat : Int) == 2) = false := by
    rw [beq_eq_false_iff_ne]; intro h; exact hk2 (UInt8.toNat_inj.1 (by simpa using (show k.toNat = 2 by omega)))
  have hR : stepR base k l = (4, [], []) := by unfold stepR; rw [if_neg hk1, if_neg hk2]
  generalize (k.toNat : Int) = kk at *
  generalize hll : l.length = m at *
  clear hl
  have HX := Mx.hid hx
  clear hx
  go_enter Tryd.func78, Tryd.ntmps78
  go_wp2_with (first | ((with_reducible show wpList _ _ _ _ _ _); refine wpl_store1 rfl 25 _ _ rfl hs (0) rfl (.slice xo m xc) rfl rfl (by kernel_rfl) (by simp) rfl ?_; intro w1 hs1))
  go_ret2
  unfold StepPost
  rw [hR]
  exact ⟨_, _, _, rfl, Sl.nil _ 1, hs1, fun h => by simp at h⟩

set_option maxHeartbeats 1000000 in
theorem step_ins (w0 w : World) (R : List Row) (Q : List Rd) (g : Nat) (v vb : Value) (base l : List UInt8) (hs : St w0 w (rdr g v 0 :: R) Q) (hl : Sl w0 1 v ((2 : UInt8) :: l).length (bs ((2 : UInt8) :: l))) (hn : l.length ≤ 140737488355328) :
    Calls Tryd.prog 78 #[.pointer (some ⟨g, 0, none⟩), vb] w (StepPost w0 R Q g base 2 l) := by
  have c0 : w.cell? ⟨g, 0, none⟩ = some v := hs.rcell (List.mem_cons_self ..) rfl
  obtain ⟨blk, off, cap, xo, xc, rfl, h1, h2, c1, p1, hx⟩ := step_open (hs.old hl) hl
  unfold maxLen at h2
  change _ = some (Value.int IntKind.u8 2) at c1
  generalize hll : l.length = m at *
  clear hl
  go_enter Tryd.func78, Tryd.ntmps78
  go_wp2_with (first | ((with_reducible show wpList _ _ _ _ _ _); refine wpl_store1 rfl 25 _ _ rfl hs (0) rfl (.slice xo m xc) rfl rfl (by kernel_rfl) (by simp) rfl ?_; intro w1 hs1))
  refine (dnumber_go w0 w1 R Q g (.slice xo m xc) l hs1 (by rw [hll]; exact hx) (by omega)).mono ?_
  rintro e w2 ⟨v2, rfl, hv2, hs2⟩
  have hSR : stepR base 2 l = if nmE l ≠ 0 then (nmE l, [], []) else if nmN l = 0 then (4, [], []) else if (l.drop (nmJ l)).length < nmN l then (2, [], []) else (0, (l.drop (nmJ l)).take (nmN l), (l.drop (nmJ l)).drop (nmN l)) := by
    unfold stepR; rw [if_neg (by decide), if_pos rfl]
  have hnm : nmN l ≤ 72057594037927936 := by
    by_cases h : nmE l = 0
    · exact (nm_good h).1
    · rw [(nm_bad h).1]; omega
  have hdl : (l.drop (nmJ l)).length ≤ l.length := by rw [List.length_drop]; omega
  clear hs hs1 c0 c1 p1 hx
  have ce : w2.cell? ⟨g, 1, none⟩ = some (.int .i64 (nmE l)) := hs2.rcell (List.mem_cons_self ..) rfl
  have cb : w2.cell? ⟨g, 0, none⟩ = some v2 := hs2.rcell (List.mem_cons_self ..) rfl
  generalize l.drop (nmJ l) = l2 at *
  generalize nmE l = ee at *
  generalize nmN l = nn at *
  have HV := Mx.hid hv2
  by_cases hee : ee = 0
  · subst hee
    rw [if_neg (by simp)] at hSR
    by_cases hnn : nn = 0
    · subst hnn
      rw [if_pos rfl] at hSR
      have HS := Mx.hid hSR
      clear hSR hv2
      go_wp2_with fail
      go_ret2
      unfold StepPost
      rw [HS.out]
      exact ⟨_, _, _, rfl, Sl.nil _ 1, hs2, fun h => by simp at h⟩
    · rw [if_neg hnn] at hSR
      have b1 : ((nn : Int) == 0) = false := by rw [beq_eq_false_iff_ne]; omega
      obtain ⟨ao, bc, rfl, _⟩ := id hv2
      generalize hm2 : l2.length = m2 at *
      by_cases hsh : m2 < nn
      · rw [if_pos hsh] at hSR
        have b2 : (m2 : Int) < (nn : Int) := by omega
        have HS := Mx.hid hSR
        clear hSR hv2 hsh hnn
        go_wp2_with fail
        go_ret2
        unfold StepPost
        rw [HS.out]
        exact ⟨_, _, _, rfl, Sl.nil _ 1, hs2, fun h => by simp at h⟩
      · rw [if_neg hsh] at hSR
        have b2 : ¬ ((m2 : Int) < (nn : Int)) := by omega
        obtain ⟨xa, p2, q2⟩ := hv2.cutRun Tryd.elU8 none (some (.int .i64 (nn : Int))) 0 nn (.inl ⟨rfl, rfl⟩) (.inr ⟨.i64, rfl⟩) (by omega) (by omega)
        obtain ⟨xb, p3, q3⟩ := hv2.cutRun Tryd.elU8 (some (.int .i64 (nn : Int))) none nn m2 (.inr ⟨.i64, rfl⟩) (.inl ⟨rfl, rfl⟩) (by omega) (by omega)
        have ha := Sl.cutB (q2 _ hv2) (by omega) (by omega)
        have hb := Sl.cutB (q3 _ hv2) (by omega) (by omega)
        rw [List.drop_zero] at ha
        rw [← hm2, List.take_length] at hb
        obtain ⟨aa, ac, rfl, _⟩ := id ha
        obtain ⟨ba, bc', rfl, _⟩ := id hb
        have HS := Mx.hid hSR
        have HA := Mx.hid ha
        have HB := Mx.hid hb
        generalize ht1 : (l2.take nn).length = t1 at *
        generalize ht2 : (l2.drop nn).length = t2 at *
        clear hSR hv2 hsh hnn ha hb q2 q3
        go_wp2_with ((with_reducible show wpList _ _ _ _ _ _); refine wpl_store1 rfl 25 _ _ rfl hs2 (0) rfl (.slice ba t2 bc') rfl rfl (by kernel_rfl) (by simp) rfl ?_; intro w3 hs3)
        go_ret2
        unfold StepPost
        rw [HS.out]
        simp only []
        rw [ht1, ht2]
        exact ⟨_, _, 0, rfl, HA.out, hs3, fun _ => ⟨rfl, HB.out⟩⟩
  · rw [if_pos hee] at hSR
    have b1 : (ee != 0) = true := by simpa using hee
    have HS := Mx.hid hSR
    clear hSR hv2
    go_wp2_with fail
    go_quiet (fail)
    go_wp2_with fail
    go_ret2
    unfold StepPost
    rw [HS.out]
    exact ⟨_, _, _, rfl, Sl.nil _ 1, by first | exact hs2.drewN _ | exact (hs2.drewN _).drew, fun h => absurd h hee⟩

set_option maxHeartbeats 2000000 in
theorem step_copy (w0 w : World) (R : List Row) (Q : List Rd) (g : Nat) (v vb : Value) (base l : List UInt8) (hs : St w0 w (rdr g v 0 :: R) Q) (hl : Sl w0 1 v ((1 : UInt8) :: l).length (bs ((1 : UInt8) :: l))) (hn : l.length ≤ 140737488355328)
    (hbase : Sl w0 1 vb base.length (bs base)) (hbl : base.length ≤ 140737488355328) :
    Calls Tryd.prog 78 #[.pointer (some ⟨g, 0, none⟩), vb] w (StepPost w0 R Q g base 1 l) := by
  have c0 : w.cell? ⟨g, 0, none⟩ = some v := hs.rcell (List.mem_cons_self ..) rfl
  obtain ⟨blk, off, cap, xo, xc, rfl, h1, h2, c1, p1, hx⟩ := step_open (hs.old hl) hl
  unfold maxLen at h2
  change _ = some (Value.int IntKind.u8 1) at c1
  generalize hll : l.length = m at *
  clear hl
  go_enter Tryd.func78, Tryd.ntmps78
  go_wp2_with (first | ((with_reducible show wpList _ _ _ _ _ _); refine wpl_store1 rfl 25 _ _ rfl hs (0) rfl (.slice xo m xc) rfl rfl (by kernel_rfl) (by simp) rfl ?_; intro w1 hs1))
  refine (dnumber_go w0 w1 R Q g (.slice xo m xc) l hs1 (by rw [hll]; exact hx) (by omega)).mono ?_
  rintro e w2 ⟨v2, rfl, hv2, hs2⟩
  have hSR : stepR base 1 l = if nmE l ≠ 0 then (nmE l, [], []) else
    if nmE (l.drop (nmJ l)) ≠ 0 then (nmE (l.drop (nmJ l)), [], []) else
    if nmN (l.drop (nmJ l)) = 0 then (4, [], []) else
    if base.length < nmN l ∨ base.length - nmN l < nmN (l.drop (nmJ l)) then (1, [], []) else
    (0, (base.take (nmN l + nmN (l.drop (nmJ l)))).drop (nmN l), (l.drop (nmJ l)).drop (nmJ (l.drop (nmJ l)))) := by
    unfold stepR; rw [if_pos rfl]
  have hnm : nmN l ≤ 72057594037927936 := by
    by_cases h : nmE l = 0
    · exact (nm_good h).1
    · rw [(nm_bad h).1]; omega
  have hdl : (l.drop (nmJ l)).length ≤ l.length := by rw [List.length_drop]; omega
  clear hs hs1 c0 c1 p1 hx
  have ce : w2.cell? ⟨g, 1, none⟩ = some (.int .i64 (nmE l)) := hs2.rcell (List.mem_cons_self ..) rfl
  generalize l.drop (nmJ l) = l2 at *
  generalize nmE l = ee at *
  generalize nmN l = pl at *
  by_cases hee : ee = 0
  · subst hee
    rw [if_neg (by simp)] at hSR
    clear ce
    have HSR := Mx.hid hSR
    clear hSR
    go_wp2_with fail
    refine (dnumber_go w0 w2 R Q g v2 l2 hs2 hv2 (by omega)).mono ?_
    rintro e w3 ⟨v3, rfl, hv3, hs3⟩
    have hSR := HSR.out
    have hnm2 : nmN l2 ≤ 72057594037927936 := by
      by_cases h : nmE l2 = 0
      · exact (nm_good h).1
      · rw [(nm_bad h).1]; omega
    clear HSR hs2 hv2
    have ce : w3.cell? ⟨g, 1, none⟩ = some (.int .i64 (nmE l2)) := hs3.rcell (List.mem_cons_self ..) rfl
    generalize l2.drop (nmJ l2) = l3 at *
    generalize nmE l2 = e2 at *
    generalize nmN l2 = nn at *
    have HV := Mx.hid hv3
    clear hv3
    by_cases he2 : e2 = 0
    · subst he2
      rw [if_neg (by simp)] at hSR
      by_cases hnn : nn = 0
      · subst hnn
        rw [if_pos rfl] at hSR
        have HS := Mx.hid hSR
        clear hSR
        go_wp2_with fail
        go_ret2
        unfold StepPost
        rw [HS.out]
        exact ⟨_, _, _, rfl, Sl.nil _ 1, hs3, fun h => by simp at h⟩
      · rw [if_neg hnn] at hSR
        have b1 : ((nn : Int) == 0) = false := by rw [beq_eq_false_iff_ne]; omega
        obtain ⟨ao, bc, rfl, _⟩ := id hbase
        generalize hmb : base.length = mb at *
        by_cases hr1 : mb < pl
        · rw [if_pos (.inl hr1)] at hSR
          have b2 : (mb : Int) < (pl : Int) := by omega
          have HS := Mx.hid hSR
          clear hSR hnn hr1
          go_wp2_with fail
          go_ret2
          unfold StepPost
          rw [HS.out]
          exact ⟨_, _, _, rfl, Sl.nil _ 1, hs3, fun h => by simp at h⟩
        · by_cases hr2 : mb - pl < nn
          · rw [if_pos (.inr hr2)] at hSR
            have b2 : ¬ ((mb : Int) < (pl : Int)) := by omega
            have b3 : (mb : Int) - (pl : Int) < (nn : Int) := by omega
            have HS := Mx.hid hSR
            clear hSR hnn hr1 hr2
            go_wp2_with fail
            go_ret2
            unfold StepPost
            rw [HS.out]
            exact ⟨_, _, _, rfl, Sl.nil _ 1, hs3, fun h => by simp at h⟩
          · rw [if_neg (by omega)] at hSR
            have b2 : ¬ ((mb : Int) < (pl : Int)) := by omega
            have b3 : ¬ ((mb : Int) - (pl : Int) < (nn : Int)) := by omega
            obtain ⟨xa, p2, q2⟩ := hbase.cutRun Tryd.elU8 (some (.int .i64 (pl : Int))) (some (.int .i64 ((pl : Int) + (nn : Int)))) pl (pl + nn) (.inr ⟨.i64, rfl⟩) (.inr ⟨.i64, by push_cast; rfl⟩) (by omega) (by omega)
            have ha := Sl.cutB (q2 _ hbase) (by omega) (by omega)
            obtain ⟨aa, ac, rfl, _⟩ := id ha
            have HS := Mx.hid hSR
            have HA := Mx.hid ha
            generalize ht1 : ((base.take (pl + nn)).drop pl).length = t1 at *
            clear hSR hnn hr1 hr2 ha q2
            go_wp2_with fail
            go_ret2
            unfold StepPost
            rw [HS.out]
            simp only []
            rw [ht1]
            exact ⟨_, _, 0, rfl, HA.out, hs3, fun _ => ⟨rfl, HV.out⟩⟩
    · rw [if_pos he2] at hSR
      have b1 : (e2 != 0) = true := by simpa using he2
      have HS := Mx.hid hSR
      clear hSR
      go_wp2_with fail
      go_quiet (fail)
      go_wp2_with fail
      go_ret2
      unfold StepPost
      rw [HS.out]
      exact ⟨_, _, _, rfl, Sl.nil _ 1, by first | exact hs3.drewN _ | exact (hs3.drewN _).drew, fun h => absurd h he2⟩
  · rw [if_pos hee] at hSR
    have b1 : (ee != 0) = true := by simpa using hee
    have HS := Mx.hid hSR
    clear hSR hv2
    go_wp2_with fail
    refine (number_stop w2 g ee ce hee).mono ?_
    rintro e w3 ⟨rfl, hk⟩
    have hs3 := hs2.call0 hk
    have ce3 : w3.cell? ⟨g, 1, none⟩ = some (.int .i64 ee) := hs3.rcell (List.mem_cons_self ..) rfl
    clear ce
    go_wp2_with fail
    go_quiet (fail)
    go_wp2_with fail
    go_ret2
    unfold StepPost
    rw [HS.out]
    exact ⟨_, _, _, rfl, Sl.nil _ 1, by first | exact hs3.drewN _ | exact (hs3.drewN _).drew, fun h => absurd h hee⟩

theorem step_any (w0 w : World) (R : List Row) (Q : List Rd) (g : Nat) (v vb : Value) (base : List UInt8) (k : UInt8) (l : List UInt8) (hs : St w0 w (rdr g v 0 :: R) Q) (hl : Sl w0 1 v (k :: l).length (bs (k :: l))) (hn : l.length ≤ 140737488355328)
    (hbase : Sl w0 1 vb base.length (bs base)) (hbl : base.length ≤ 140737488355328) :
    Calls Tryd.prog 78 #[.pointer (some ⟨g, 0, none⟩), vb] w (StepPost w0 R Q g base k l) := by
  by_cases h1 : k = 1
  · subst h1; exact step_copy w0 w R Q g v vb base l hs hl hn hbase hbl
  · by_cases h2 : k = 2
    · subst h2; exact step_ins w0 w R Q g v vb base l hs hl hn
    · exact step_other w0 w R Q g v vb base k l hs hl h1 h2
end Go.Proofs.YtlfdnlomlbbicaaDoor
