/- The walk of obj.Decode. -/
import Derived.Test.YtloogjdafhjheaaGreatObjV
namespace Go.Mx
open Go Go.RowKit
/-- Two results, the first of which lies in a variable of its own. -/
theorem results_cellA2 {P : Program} {fn : Func} {p q : Tmp} {ty : TypeId} (h : fn.results = #[.cell p ty, .tmp q]) (tmps : Array Value) {n : Nat} (A : Ag P ty n) {w : World} {g : Nat} (cs : List Value) (hp : tmps.getD p undef = .pointer (some ⟨g, 0, none⟩)) (hn : cs.length = n)
    (hc : ∀ i u, cs[i]? = some u → w.cell? ⟨g, i, none⟩ = some u) {u : Value} (hq : tmps.getD q undef = u) : (results fn tmps).run P w = .ok (.tuple #[.agg cs.toArray, u]) w := by
  have hp' : tmps[p]?.getD undef = .pointer (some ⟨g, 0, none⟩) := by simpa using hp
  have hq' : tmps[q]?.getD undef = u := by simpa using hq
  simp [results, h, hp', hq', asAddr, run_loadA A hn (g := g) (j := 0) (by simpa using hc)]
theorem perm_zr {α : Type} (d i p z r : α) : [d, i, p, z, r].Perm [z, d, i, p, r] :=
  (List.perm_append_comm (l₁ := [d, i, p]) (l₂ := [z])).append_right [r]
theorem hs_size (s : Src) : (hs s).1.size ≤ 64 := by
  unfold hs
  simp only [str_size, hexL_len]
  have : (tk 32 s).1.length ≤ 32 := by unfold tk; split <;> simp; omega
  omega
theorem rdItems_size : ∀ (n : Nat) (s : Src), ∀ x ∈ (rdItems n s).1, (x.2.1.size ≤ s.1.length ∧ x.2.2.size ≤ 64) ∧ 0 ≤ x.1 ∧ x.1 ≤ 255
  | 0, s, x, h => by cases h
  | n + 1, s, x, h => by
    rw [rdItems] at h
    split at h
    · cases h
    · simp only [List.mem_cons] at h
      have h1 := (on_le s).1
      have h2 := (nm_le (on s).2).1
      have h3 := (tk_le (nm (on s).2).1 (nm (on s).2).2).1
      have h4 := (hs_le (tk (nm (on s).2).1 (nm (on s).2).2).2).1
      rcases h with rfl | h
      · refine ⟨⟨?_, hs_size _⟩, by simp, ?_⟩
        · simp only [str_size]
          have := tk_x (nm (on s).2).1 (nm (on s).2).2
          omega
        · have := on_256 s
          simp only []
          omega
      · have := rdItems_size n _ x h
        refine ⟨⟨by omega, this.1.2⟩, this.2⟩
theorem rdPars_size : ∀ (n : Nat) (s : Src), ∀ x ∈ (rdPars n s).1, x.size ≤ 64
  | 0, s, x, h => by cases h
  | n + 1, s, x, h => by
    rw [rdPars] at h
    split at h
    · cases h
    · simp only [List.mem_cons] at h
      rcases h with rfl | h
      · exact hs_size _
      · exact rdPars_size n _ x h
theorem read_oz (kind : Int) (l : List UInt8) (hl : l.length ≤ 1000000000) : OZ (readO kind l) := by
  have hz : (str []).size ≤ 140737488351232 := by rw [str_size]; simp
  unfold readO
  split
  · exact ⟨hz, hz, by simp, by simp⟩
  · split
    · refine ⟨hz, hz, fun x hx => ?_, by simp⟩
      have h1 := rdItems_size _ _ x hx
      have h2 := (nm_le (l, false)).1
      simp only [] at h2
      exact ⟨by omega, by omega, by omega, by omega⟩
    · split
      · refine ⟨by have := hs_size (l, false); simp only []; omega, ?_, by simp, fun x hx => by have := rdPars_size _ _ x hx; omega⟩
        simp only [str_size]
        have a1 := (hs_le (l, false)).1
        have a2 := (on_le (hs (l, false)).2).1
        have a3 : ∀ n s, (rdPars n s).2.1.length ≤ s.1.length := fun n => by
          induction n with
          | zero => intro s; exact Nat.le_refl _
          | succ n ih =>
            intro s
            rw [rdPars]
            split
            · exact Nat.le_refl _
            · have := ih (hs s).2
              have := (hs_le s).1
              simp only []
              omega
        have a4 := a3 (on (hs (l, false)).2).1 (on (hs (l, false)).2).2
        have a5 := (nm_le (rdPars (on (hs (l, false)).2).1 (on (hs (l, false)).2).2).2).1
        have a6 := (nm_le (nm (rdPars (on (hs (l, false)).2).1 (on (hs (l, false)).2).2).2).2).1
        have a7 := (nm_le (nm (nm (rdPars (on (hs (l, false)).2).1 (on (hs (l, false)).2).2).2).2).2).1
        have a8 := tk_x (nm (nm (nm (rdPars (on (hs (l, false)).2).1 (on (hs (l, false)).2).2).2).2).2).1 (nm (nm (nm (rdPars (on (hs (l, false)).2).1 (on (hs (l, false)).2).2).2).2).2).2
        simp only [] at a1
        omega
      · exact ⟨hz, hz, by simp, by simp⟩
end Go.Mx
namespace Go.Proofs.YtloogjdafhjheaaGreat
open Go.RowKit Go.Mx

theorem read_any (v : Value) (l : List UInt8) (kind : Int) (w : World) (hv : Sl w 1 v l.length (bs l)) (hl : l.length ≤ 1000000000) :
    Calls Tryz.prog 65 #[.int .i64 kind, v] w (ReadPost w (readO kind l)) := by
  by_cases h1 : kind = 1
  · subst h1; exact read_blob v l w hv (by omega)
  · by_cases h2 : kind = 2
    · subst h2; exact read_tree v l w hv hl
    · by_cases h3 : kind = 3
      · subst h3; exact read_commit v l w hv hl
      · exact read_other v l kind w hv h1 h2 h3

theorem bequal_any (v v' : Value) (l l' : List UInt8) (w : World) (hv : Sl w 1 v l.length (bs l)) (hv' : Sl w 1 v' l'.length (bs l')) :
    Calls Tryz.prog 66 #[v, v'] w fun e w' => e = .returned (.bool (decide (l = l'))) ∧ w = w' := by
  go_enter Tryz.func66, Tryz.ntmps66
  go_wp2_with (first | ((with_reducible show wpList _ _ _ _ _ _); refine wpl_b2s rfl 51 9 5 _ rfl Tryz.underlying51 Tryz.underlying5 Tryz.underlying9 (by exact hv) ?_) | ((with_reducible show wpList _ _ _ _ _ _); refine wpl_b2s rfl 51 9 5 _ rfl Tryz.underlying51 Tryz.underlying5 Tryz.underlying9 (by exact hv') ?_))
  go_ret
  exact ⟨by rw [← str_beq]; rfl, rfl⟩

def DecPost (w : World) (b : List UInt8) (e : Ending) (w' : World) : Prop :=
  ∃ dv iv pv, e = .returned (.tuple #[OV dv iv pv (decO b).1, .int .i64 (decO b).2]) ∧ St w w' (obR dv iv pv (decO b).1) []

set_option maxRecDepth 100000 in
set_option maxHeartbeats 2000000 in
theorem decode_nil (v : Value) (w : World) (hv : Sl w 1 v 0 (bs [])) :
    Calls Tryz.prog 46 #[v] w (DecPost w []) := by
  obtain ⟨ao, cap, rfl, h1, h2, _⟩ := hv
  have HZ := Mx.hid ((St.refl w).madeAt ([.int .i64 (0), .slice none 0 0, .slice none 0 0, .string (str []), .slice none 0 0, .int .i64 (0), .int .i64 (0), .string (str [])]).toArray 56 8 1 w.heap.size rfl (by simp [maxLen]) rfl)
  go_enter Tryz.func46, Tryz.ntmps46
  go_wp2_with ((with_reducible show wpList _ _ _ _ _ _); refine wpl_storeA rfl 56 _ _ rfl Tryz.aObj HZ.out (0) rfl ([.int .i64 (0), .slice none 0 0, .slice none 0 0, .string (str []), .slice none 0 0, .int .i64 (0), .int .i64 (0), .string (str [])]) rfl (by rfl) (by simp) (by intro u hu; simp at hu; rcases hu with rfl | rfl | rfl | rfl | rfl | rfl | rfl | rfl <;> rfl) ?_; intro w9 hs9)
  replace hs9 := hs9.cast rfl (show _ = [.int .i64 (0), .slice none 0 0, .slice none 0 0, .string (str []), .slice none 0 0, .int .i64 (0), .int .i64 (0), .string (str [])] by simp)
  have hcw : ∀ i u, ([.int .i64 (0), .slice none 0 0, .slice none 0 0, .string (str []), .slice none 0 0, .int .i64 (0), .int .i64 (0), .string (str [])])[i]? = some u → w9.cell? ⟨w.heap.size, i, none⟩ = some u := fun i u h => hs9.rcell (List.mem_cons_self ..) h
  refine bodyPost_ret (v := .tuple #[.agg ([.int .i64 (0), .slice none 0 0, .slice none 0 0, .string (str []), .slice none 0 0, .int .i64 (0), .int .i64 (0), .string (str [])]).toArray, .int .i64 2]) (results_cellA2 Tryz.results46 _ Tryz.aObj (g := w.heap.size) ([.int .i64 (0), .slice none 0 0, .slice none 0 0, .string (str []), .slice none 0 0, .int .i64 (0), .int .i64 (0), .string (str [])]) ?_ rfl hcw ?_) ?_ ⟨_, _, _, rfl, ((hs9.bare.addNil _ _).addNil _ _).addNil _ _⟩
  · first | (simp; done) | simp [Act.put]
  · first | (simp; done) | simp [Act.put]
  · first | (simp; done) | simp [Act.put]

/-- A slice that reads as one byte and more. -/
theorem dec_open {w : World} {v : Value} {k : UInt8} {l : List UInt8} (hl : Sl w 1 v (k :: l).length (bs (k :: l))) :
    ∃ (blk off cap : Nat) (xo : Option Addr) (xc : Nat), v = .slice (some ⟨blk, off, none⟩) (l.length + 1) cap ∧ l.length + 1 ≤ cap ∧ cap ≤ maxLen ∧ w.cell? ⟨blk, off, none⟩ = some (.int .u8 (k.toNat : Int)) ∧
      (∀ w', (Instr.sliceAt 51 v (some (.int .i64 1)) none none).run Tryz.prog w' = .ok (.slice xo l.length xc) w') ∧ Sl w 1 (.slice xo l.length xc) l.length (bs l) := by
  obtain ⟨x, p1, q1⟩ := hl.cutRun Tryz.elU8 (some (.int .i64 ((1 : Nat) : Int))) none 1 (k :: l).length (.inr ⟨.i64, rfl⟩) (.inl ⟨rfl, rfl⟩) (by simp) (Nat.le_refl _)
  have hx := Sl.cutB (q1 _ hl) (Nat.le_refl _) (by simp)
  rw [List.take_length] at hx
  obtain ⟨xo, xc, rfl, _⟩ := id hx
  obtain ⟨ao, cap, rfl, h1, h2, _, hc⟩ := hl.bytes
  obtain ⟨blk, off, rfl, hcell⟩ := hc (by simp)
  exact ⟨blk, off, cap, xo, xc, rfl, h1, h2, hcell 0 (by simp), p1, hx⟩

/-- What Encode leaves, seen from an object in memory. -/
theorem enc_from {w w' : World} {R : List Row} {dv iv pv : Value} {o : Ob} (hs : St w w' (obR dv iv pv o ++ R) []) (hz : OZ o) : Calls Tryz.prog 18 #[OV dv iv pv o] w' (EncPost w' o) :=
  have h : St w w' (⟨dv, 5, 1, o.data.length, bs o.data⟩ :: ⟨iv, 88, 3, o.items.length, itms o.items⟩ :: ⟨pv, 9, 1, o.parents.length, ss o.parents⟩ :: R) [] := hs
  encode_any dv iv pv o w' ⟨h.sl0, h.sl1, h.sl2⟩ hz

set_option maxRecDepth 100000 in
set_option maxHeartbeats 4000000 in
theorem decode_cons (v : Value) (k : UInt8) (r : List UInt8) (w : World) (hv : Sl w 1 v (k :: r).length (bs (k :: r))) (hl : (k :: r).length ≤ 1000000000) :
    Calls Tryz.prog 46 #[v] w (DecPost w (k :: r)) := by
  have HQ : Hid (∀ o, readO (k.toNat : Int) r = o → decO (k :: r) = if mayB o = true ∧ encL o = k :: r then (o, 0) else (noOb, 4)) := fun o h => by subst h; rfl
  have hrl : r.length ≤ 1000000000 := by simp at hl; omega
  have hoz := read_oz (k.toNat : Int) r hrl
  obtain ⟨blk, off, cap, xo, xc, rfl, h1, h2, c0, p1, hx⟩ := dec_open hv
  have HX := Mx.hid hx
  have HR := Mx.hid (fun wx (h : St w wx [] []) => read_any _ r (k.toNat : Int) wx (h.old hx) hrl)
  have HV := Mx.hid hv
  have HZ := Mx.hid ((St.refl w).madeAt ([.int .i64 (0), .slice none 0 0, .slice none 0 0, .string (str []), .slice none 0 0, .int .i64 (0), .int .i64 (0), .string (str [])]).toArray 56 8 1 w.heap.size rfl (by simp [maxLen]) rfl)
  have hk := u8_lt k
  have hw64 : wrap64 (k.toNat : Int) = (k.toNat : Int) := by unfold wrap64; omega
  unfold maxLen at h2
  have HW : Hid (∀ w' R Q, St w w' R Q → w'.cell? ⟨blk, off, none⟩ = some (.int .u8 (k.toNat : Int))) := fun w' R Q h => h.keep c0
  have hww : IntKind.i64.wrap (k.toNat : Int) = (k.toNat : Int) := IntWalk.i64_in _ (by omega)
  generalize readO (k.toNat : Int) r = o at *
  have HQ2 := Mx.hid (HQ.out o rfl)
  clear hv hx HQ hl hrl
  generalize r.length = rl at *
  generalize (k.toNat : Int) = kk at *
  have HEN := Mx.hid (fun wx dv iv pv R (hs : St w wx (obR dv iv pv o ++ R) []) => enc_from hs hoz)
  obtain ⟨okind, odata, oitems, otree, oparents, ostamp, oauthor, omsg⟩ := o
  unfold EncPost at HEN
  cases hm : mayB ⟨okind, odata, oitems, otree, oparents, ostamp, oauthor, omsg⟩ with
  | false =>
    rw [hm] at HEN HQ2
    have HF := Mx.hid (show decO (k :: r) = (noOb, 4) by rw [HQ2.out, if_neg (by simp)])
    clear hoz HQ2 hm
    go_enter Tryz.func46, Tryz.ntmps46
    go_wp2_with fail
    (refine wp_region_S (8) (fun W' => W'.cell? ⟨blk, off, none⟩ = some (.int .u8 kk)) (by kernel_rfl) ?_ (fun hHeld => ?_); (focus ((try dsimp only); exact HW.out _ _ _ HZ.out.drew)))
    (refine wpAnyS_takeL (i := 0) (v := ?_) rfl (by kernel_rfl) (by kernel_rfl) (by kernel_rfl) (by kernel_rfl) (by kernel_rfl) (by kernel_rfl) (fun _ _ _ h => h) (Or.inl ⟨by rfl, ?_⟩) hHeld ?_; rotate_left 1; (focus (intro w' hSw; (try dsimp only at hSw); go_simp; (try with_reducible rfl))); (try simp only [Act.put, List.setIfInBounds_toArray, List.set_cons_zero, List.set_cons_succ]))
    (refine wpAnyS_takeW (i := 1) (v := ?_) rfl (by kernel_rfl) (by kernel_rfl) (by kernel_rfl) (by kernel_rfl) (fun _ _ _ h => h) (Or.inl ⟨by rfl, ?_⟩) hHeld ?_; rotate_left 1; (focus (intro w' hSw; go_simp; (try with_reducible rfl))); (try simp only [Act.put, List.setIfInBounds_toArray, List.set_cons_zero, List.set_cons_succ]))
    (refine wpAnyS_takeL (i := 2) (v := ?_) rfl (by kernel_rfl) (by kernel_rfl) (by kernel_rfl) (by kernel_rfl) (by kernel_rfl) (by kernel_rfl) (fun _ _ _ h => h) (Or.inl ⟨by rfl, ?_⟩) hHeld ?_; rotate_left 1; (focus (intro w' hSw; (try dsimp only at hSw); go_simp; (try with_reducible rfl))); (try simp only [Act.put, List.setIfInBounds_toArray, List.set_cons_zero, List.set_cons_succ]))
    (refine wpAnyS_takeW (i := 3) (v := ?_) rfl (by kernel_rfl) (by kernel_rfl) (by kernel_rfl) (by kernel_rfl) (fun _ _ _ h => h) (Or.inl ⟨by rfl, ?_⟩) hHeld ?_; rotate_left 1; (focus (intro w' hSw; go_simp; (try with_reducible rfl))); (try simp only [Act.put, List.setIfInBounds_toArray, List.set_cons_zero, List.set_cons_succ]))
    (refine wpAnyS_takeW (i := 4) (v := ?_) rfl (by kernel_rfl) (by kernel_rfl) (by kernel_rfl) (by kernel_rfl) (fun _ _ _ h => h) (Or.inl ⟨by rfl, ?_⟩) hHeld ?_; rotate_left 1; (focus (intro w' hSw; go_simp; (try with_reducible rfl))); (try simp only [Act.put, List.setIfInBounds_toArray, List.set_cons_zero, List.set_cons_succ]))
    (refine wpAnyS_takeW (i := 5) (v := ?_) rfl (by kernel_rfl) (by kernel_rfl) (by kernel_rfl) (by kernel_rfl) (fun _ _ _ h => h) (Or.inl ⟨by rfl, ?_⟩) hHeld ?_; rotate_left 1; (focus (intro w' hSw; go_simp; (try with_reducible rfl))); (try simp only [Act.put, List.setIfInBounds_toArray, List.set_cons_zero, List.set_cons_succ]))
    refine wpAnyS_ready (rs := [6, 7]) (by kernel_rfl) (by simp) ?_
    refine AllS.consL rfl (fun K hK => ?_) (AllS.consL rfl (fun K hK => ?_) AllS.nil)
    · (go_simp; go_at_call 65; refine (HR.out _ HZ.out.drew.bare).mono ?_; rintro e w3 ⟨dv, iv, pv, rfl, hk3⟩; obtain ⟨da, dc, rfl, _⟩ := id hk3.sl0; obtain ⟨ia, ic, rfl, _⟩ := id hk3.sl1; obtain ⟨pa, pc, rfl, _⟩ := id hk3.sl2; have hs3 := HZ.out.drew.call hk3; go_wp2_with fail)
      (refine hK.out _ _ ?_ (fun hHeld => ?_); (focus ((try dsimp only); exact HW.out _ _ _ hs3)); clear hK K; (try simp only [Act.put, List.setIfInBounds_toArray, List.set_cons_zero, List.set_cons_succ]))
      (refine wpAnyS_ready (rs := [7]) (by kernel_rfl) (by simp) ?_; refine AllS.consL rfl (fun K hK => ?_) AllS.nil)
      go_simp
      have hs4 := hs3.madeAt ([.int .i64 (0), .slice none 0 0, .slice none 0 0, .string (str []), .slice none 0 0, .int .i64 (0), .int .i64 (0), .string (str [])]).toArray 56 8 1 w3.heap.size rfl (by simp [maxLen]) rfl
      (refine hK.out _ _ ?_ (fun hHeld => ?_); (focus ((try dsimp only); exact HW.out _ _ _ hs4)); clear hK K; (try simp only [Act.put, List.setIfInBounds_toArray, List.set_cons_zero, List.set_cons_succ]))
      (refine wpAnyS_seq (by rfl) (by kernel_rfl) ?_; simp only [List.drop_succ_cons, List.drop_zero])
      generalize w3.heap.size = gz at *
      go_wp2_with (first | ((with_reducible show wpList _ _ _ _ _ _); refine wpl_want rfl ?_) | (((with_reducible show wpList _ _ _ _ _ _); refine wpl_storeA rfl 56 _ _ rfl Tryz.aObj hs4 (0) rfl ([.int .i64 okind, .slice da odata.length dc, .slice ia oitems.length ic, .string otree, .slice pa oparents.length pc, .int .i64 ostamp, .int .i64 oauthor, .string omsg]) rfl (by rfl) (by simp) (by intro u hu; simp at hu; rcases hu with rfl | rfl | rfl | rfl | rfl | rfl | rfl | rfl <;> rfl) ?_; intro w5 hs5); replace hs5 := hs5.cast rfl (show _ = [.int .i64 okind, .slice da odata.length dc, .slice ia oitems.length ic, .string otree, .slice pa oparents.length pc, .int .i64 ostamp, .int .i64 oauthor, .string omsg] by simp)) | ((with_reducible show wpList _ _ _ _ _ _); refine wpl_loadA rfl 56 _ rfl Tryz.aObj (gz) (0) rfl ([.int .i64 okind, .slice da odata.length dc, .slice ia oitems.length ic, .string otree, .slice pa oparents.length pc, .int .i64 ostamp, .int .i64 oauthor, .string omsg]) rfl (fun i u h => by rw [Nat.zero_add]; exact hs5.rcell (List.mem_cons_self ..) h) ?_) | (go_at_call 18; refine (HEN.out _ _ _ _ _ hs5.tail).mono ?_; rintro e w6 ⟨rfl, hk6⟩; have hs6 := hs5.call0 hk6) | ((with_reducible show wpList _ _ _ _ _ _); refine wpl_storeA rfl 56 _ _ rfl Tryz.aObj (hs6.perm (R' := [_, _, _, _, _]) (List.perm_append_comm (l₁ := [_, _, _, _]) (l₂ := [_]))) (0) rfl ([.int .i64 (0), .slice none 0 0, .slice none 0 0, .string (str []), .slice none 0 0, .int .i64 (0), .int .i64 (0), .string (str [])]) rfl (by rfl) (by simp) (by intro u hu; simp at hu; rcases hu with rfl | rfl | rfl | rfl | rfl | rfl | rfl | rfl <;> rfl) ?_; intro w9 hs9))
      replace hs9 := hs9.cast rfl (show _ = [.int .i64 (0), .slice none 0 0, .slice none 0 0, .string (str []), .slice none 0 0, .int .i64 (0), .int .i64 (0), .string (str [])] by simp)
      have hcw : ∀ i u, ([.int .i64 (0), .slice none 0 0, .slice none 0 0, .string (str []), .slice none 0 0, .int .i64 (0), .int .i64 (0), .string (str [])])[i]? = some u → w9.cell? ⟨w.heap.size, i, none⟩ = some u := fun i u h => hs9.rcell (List.mem_cons_self ..) h
      refine bodyPost_ret (v := .tuple #[.agg ([.int .i64 (0), .slice none 0 0, .slice none 0 0, .string (str []), .slice none 0 0, .int .i64 (0), .int .i64 (0), .string (str [])]).toArray, .int .i64 4]) (results_cellA2 Tryz.results46 _ Tryz.aObj (g := w.heap.size) ([.int .i64 (0), .slice none 0 0, .slice none 0 0, .string (str []), .slice none 0 0, .int .i64 (0), .int .i64 (0), .string (str [])]) ?_ rfl hcw ?_) ?_ ⟨_, _, _, by rw [HF.out]; rfl, by rw [HF.out]; exact ((hs9.bare.addNil _ _).addNil _ _).addNil _ _⟩
      · first | (simp; done) | simp [Act.put]
      · first | (simp; done) | simp [Act.put]
      · first | (simp; done) | simp [Act.put]
    · go_simp
      have HZ2 := Mx.hid (HZ.out.madeAt ([.int .i64 (0), .slice none 0 0, .slice none 0 0, .string (str []), .slice none 0 0, .int .i64 (0), .int .i64 (0), .string (str [])]).toArray 56 8 1 (w.heap.size + 1) rfl (by simp [maxLen]) (by rw [heap_size_alloc])).drew
      (refine hK.out _ _ ?_ (fun hHeld => ?_); (focus ((try dsimp only); exact HW.out _ _ _ HZ2.out)); clear hK K; (try simp only [Act.put, List.setIfInBounds_toArray, List.set_cons_zero, List.set_cons_succ]))
      (refine wpAnyS_ready (rs := [6]) (by kernel_rfl) (by simp) ?_; refine AllS.consL rfl (fun K hK => ?_) AllS.nil)
      (go_simp; go_at_call 65; refine (HR.out _ HZ2.out.bare).mono ?_; rintro e w3 ⟨dv, iv, pv, rfl, hk3⟩; obtain ⟨da, dc, rfl, _⟩ := id hk3.sl0; obtain ⟨ia, ic, rfl, _⟩ := id hk3.sl1; obtain ⟨pa, pc, rfl, _⟩ := id hk3.sl2; have hs3 := HZ2.out.call hk3; go_wp2_with fail)
      replace hs3 := hs3.perm (perm_zr _ _ _ _ _)
      have hs4 := hs3
      (refine hK.out _ _ ?_ (fun hHeld => ?_); (focus ((try dsimp only); exact HW.out _ _ _ hs3)); clear hK K; (try simp only [Act.put, List.setIfInBounds_toArray, List.set_cons_zero, List.set_cons_succ]))
      (refine wpAnyS_seq (by rfl) (by kernel_rfl) ?_; simp only [List.drop_succ_cons, List.drop_zero])
      clear hs3
      generalize w.heap.size + 1 = gz at hs4 ⊢
      go_wp2_with (first | ((with_reducible show wpList _ _ _ _ _ _); refine wpl_want rfl ?_) | (((with_reducible show wpList _ _ _ _ _ _); refine wpl_storeA rfl 56 _ _ rfl Tryz.aObj hs4 (0) rfl ([.int .i64 okind, .slice da odata.length dc, .slice ia oitems.length ic, .string otree, .slice pa oparents.length pc, .int .i64 ostamp, .int .i64 oauthor, .string omsg]) rfl (by rfl) (by simp) (by intro u hu; simp at hu; rcases hu with rfl | rfl | rfl | rfl | rfl | rfl | rfl | rfl <;> rfl) ?_; intro w5 hs5); replace hs5 := hs5.cast rfl (show _ = [.int .i64 okind, .slice da odata.length dc, .slice ia oitems.length ic, .string otree, .slice pa oparents.length pc, .int .i64 ostamp, .int .i64 oauthor, .string omsg] by simp)) | ((with_reducible show wpList _ _ _ _ _ _); refine wpl_loadA rfl 56 _ rfl Tryz.aObj (gz) (0) rfl ([.int .i64 okind, .slice da odata.length dc, .slice ia oitems.length ic, .string otree, .slice pa oparents.length pc, .int .i64 ostamp, .int .i64 oauthor, .string omsg]) rfl (fun i u h => by rw [Nat.zero_add]; exact hs5.rcell (List.mem_cons_self ..) h) ?_) | (go_at_call 18; refine (HEN.out _ _ _ _ _ hs5.tail).mono ?_; rintro e w6 ⟨rfl, hk6⟩; have hs6 := hs5.call0 hk6) | ((with_reducible show wpList _ _ _ _ _ _); refine wpl_storeA rfl 56 _ _ rfl Tryz.aObj (hs6.perm (R' := [_, _, _, _, _]) (List.perm_append_comm (l₁ := [_, _, _, _]) (l₂ := [_]))) (0) rfl ([.int .i64 (0), .slice none 0 0, .slice none 0 0, .string (str []), .slice none 0 0, .int .i64 (0), .int .i64 (0), .string (str [])]) rfl (by rfl) (by simp) (by intro u hu; simp at hu; rcases hu with rfl | rfl | rfl | rfl | rfl | rfl | rfl | rfl <;> rfl) ?_; intro w9 hs9))
      replace hs9 := hs9.cast rfl (show _ = [.int .i64 (0), .slice none 0 0, .slice none 0 0, .string (str []), .slice none 0 0, .int .i64 (0), .int .i64 (0), .string (str [])] by simp)
      have hcw : ∀ i u, ([.int .i64 (0), .slice none 0 0, .slice none 0 0, .string (str []), .slice none 0 0, .int .i64 (0), .int .i64 (0), .string (str [])])[i]? = some u → w9.cell? ⟨w.heap.size, i, none⟩ = some u := fun i u h => hs9.rcell (List.mem_cons_self ..) h
      refine bodyPost_ret (v := .tuple #[.agg ([.int .i64 (0), .slice none 0 0, .slice none 0 0, .string (str []), .slice none 0 0, .int .i64 (0), .int .i64 (0), .string (str [])]).toArray, .int .i64 4]) (results_cellA2 Tryz.results46 _ Tryz.aObj (g := w.heap.size) ([.int .i64 (0), .slice none 0 0, .slice none 0 0, .string (str []), .slice none 0 0, .int .i64 (0), .int .i64 (0), .string (str [])]) ?_ rfl hcw ?_) ?_ ⟨_, _, _, by rw [HF.out]; rfl, by rw [HF.out]; exact ((hs9.bare.addNil _ _).addNil _ _).addNil _ _⟩
      · first | (simp; done) | simp [Act.put]
      · first | (simp; done) | simp [Act.put]
      · first | (simp; done) | simp [Act.put]
  | true =>
    rw [hm] at HEN HQ2
    by_cases hb : encL ⟨okind, odata, oitems, otree, oparents, ostamp, oauthor, omsg⟩ = k :: r
    · have HF := Mx.hid (show decO (k :: r) = (⟨okind, odata, oitems, otree, oparents, ostamp, oauthor, omsg⟩, 0) by rw [HQ2.out, if_pos ⟨rfl, hb⟩])
      have hbd := decide_eq_true hb
      clear hoz HQ2 hm
      generalize hEL : encL ⟨okind, odata, oitems, otree, oparents, ostamp, oauthor, omsg⟩ = EL at *
      have HEL := Mx.hid hEL
      have HB := Mx.hid hb
      clear hEL hb
      go_enter Tryz.func46, Tryz.ntmps46
      go_wp2_with fail
      (refine wp_region_S (8) (fun W' => W'.cell? ⟨blk, off, none⟩ = some (.int .u8 kk)) (by kernel_rfl) ?_ (fun hHeld => ?_); (focus ((try dsimp only); exact HW.out _ _ _ HZ.out.drew)))
      (refine wpAnyS_takeL (i := 0) (v := ?_) rfl (by kernel_rfl) (by kernel_rfl) (by kernel_rfl) (by kernel_rfl) (by kernel_rfl) (by kernel_rfl) (fun _ _ _ h => h) (Or.inl ⟨by rfl, ?_⟩) hHeld ?_; rotate_left 1; (focus (intro w' hSw; (try dsimp only at hSw); go_simp; (try with_reducible rfl))); (try simp only [Act.put, List.setIfInBounds_toArray, List.set_cons_zero, List.set_cons_succ]))
      (refine wpAnyS_takeW (i := 1) (v := ?_) rfl (by kernel_rfl) (by kernel_rfl) (by kernel_rfl) (by kernel_rfl) (fun _ _ _ h => h) (Or.inl ⟨by rfl, ?_⟩) hHeld ?_; rotate_left 1; (focus (intro w' hSw; go_simp; (try with_reducible rfl))); (try simp only [Act.put, List.setIfInBounds_toArray, List.set_cons_zero, List.set_cons_succ]))
      (refine wpAnyS_takeL (i := 2) (v := ?_) rfl (by kernel_rfl) (by kernel_rfl) (by kernel_rfl) (by kernel_rfl) (by kernel_rfl) (by kernel_rfl) (fun _ _ _ h => h) (Or.inl ⟨by rfl, ?_⟩) hHeld ?_; rotate_left 1; (focus (intro w' hSw; (try dsimp only at hSw); go_simp; (try with_reducible rfl))); (try simp only [Act.put, List.setIfInBounds_toArray, List.set_cons_zero, List.set_cons_succ]))
      (refine wpAnyS_takeW (i := 3) (v := ?_) rfl (by kernel_rfl) (by kernel_rfl) (by kernel_rfl) (by kernel_rfl) (fun _ _ _ h => h) (Or.inl ⟨by rfl, ?_⟩) hHeld ?_; rotate_left 1; (focus (intro w' hSw; go_simp; (try with_reducible rfl))); (try simp only [Act.put, List.setIfInBounds_toArray, List.set_cons_zero, List.set_cons_succ]))
      (refine wpAnyS_takeW (i := 4) (v := ?_) rfl (by kernel_rfl) (by kernel_rfl) (by kernel_rfl) (by kernel_rfl) (fun _ _ _ h => h) (Or.inl ⟨by rfl, ?_⟩) hHeld ?_; rotate_left 1; (focus (intro w' hSw; go_simp; (try with_reducible rfl))); (try simp only [Act.put, List.setIfInBounds_toArray, List.set_cons_zero, List.set_cons_succ]))
      (refine wpAnyS_takeW (i := 5) (v := ?_) rfl (by kernel_rfl) (by kernel_rfl) (by kernel_rfl) (by kernel_rfl) (fun _ _ _ h => h) (Or.inl ⟨by rfl, ?_⟩) hHeld ?_; rotate_left 1; (focus (intro w' hSw; go_simp; (try with_reducible rfl))); (try simp only [Act.put, List.setIfInBounds_toArray, List.set_cons_zero, List.set_cons_succ]))
      refine wpAnyS_ready (rs := [6, 7]) (by kernel_rfl) (by simp) ?_
      refine AllS.consL rfl (fun K hK => ?_) (AllS.consL rfl (fun K hK => ?_) AllS.nil)
      · (go_simp; go_at_call 65; refine (HR.out _ HZ.out.drew.bare).mono ?_; rintro e w3 ⟨dv, iv, pv, rfl, hk3⟩; obtain ⟨da, dc, rfl, _⟩ := id hk3.sl0; obtain ⟨ia, ic, rfl, _⟩ := id hk3.sl1; obtain ⟨pa, pc, rfl, _⟩ := id hk3.sl2; have hs3 := HZ.out.drew.call hk3; go_wp2_with fail)
        (refine hK.out _ _ ?_ (fun hHeld => ?_); (focus ((try dsimp only); exact HW.out _ _ _ hs3)); clear hK K; (try simp only [Act.put, List.setIfInBounds_toArray, List.set_cons_zero, List.set_cons_succ]))
        (refine wpAnyS_ready (rs := [7]) (by kernel_rfl) (by simp) ?_; refine AllS.consL rfl (fun K hK => ?_) AllS.nil)
        go_simp
        have hs4 := hs3.madeAt ([.int .i64 (0), .slice none 0 0, .slice none 0 0, .string (str []), .slice none 0 0, .int .i64 (0), .int .i64 (0), .string (str [])]).toArray 56 8 1 w3.heap.size rfl (by simp [maxLen]) rfl
        (refine hK.out _ _ ?_ (fun hHeld => ?_); (focus ((try dsimp only); exact HW.out _ _ _ hs4)); clear hK K; (try simp only [Act.put, List.setIfInBounds_toArray, List.set_cons_zero, List.set_cons_succ]))
        (refine wpAnyS_seq (by rfl) (by kernel_rfl) ?_; simp only [List.drop_succ_cons, List.drop_zero])
        generalize w3.heap.size = gz at *
        go_wp2_with (first | ((with_reducible show wpList _ _ _ _ _ _); refine wpl_want rfl ?_) | (((with_reducible show wpList _ _ _ _ _ _); refine wpl_storeA rfl 56 _ _ rfl Tryz.aObj hs4 (0) rfl ([.int .i64 okind, .slice da odata.length dc, .slice ia oitems.length ic, .string otree, .slice pa oparents.length pc, .int .i64 ostamp, .int .i64 oauthor, .string omsg]) rfl (by rfl) (by simp) (by intro u hu; simp at hu; rcases hu with rfl | rfl | rfl | rfl | rfl | rfl | rfl | rfl <;> rfl) ?_; intro w5 hs5); replace hs5 := hs5.cast rfl (show _ = [.int .i64 okind, .slice da odata.length dc, .slice ia oitems.length ic, .string otree, .slice pa oparents.length pc, .int .i64 ostamp, .int .i64 oauthor, .string omsg] by simp)) | ((with_reducible show wpList _ _ _ _ _ _); refine wpl_loadA rfl 56 _ rfl Tryz.aObj (gz) (0) rfl ([.int .i64 okind, .slice da odata.length dc, .slice ia oitems.length ic, .string otree, .slice pa oparents.length pc, .int .i64 ostamp, .int .i64 oauthor, .string omsg]) rfl (fun i u h => by rw [Nat.zero_add]; exact hs5.rcell (List.mem_cons_self ..) h) ?_) | (go_at_call 18; refine (HEN.out _ _ _ _ _ hs5.tail).mono ?_; rintro e w6 ⟨xv, rfl, hk6⟩; obtain ⟨xa, xb, rfl, _⟩ := id hk6.sl0; have hs6 := hs5.call1 hk6) | (go_at_call 66; refine (bequal_any _ _ _ _ _ (hs6.sl0) (hs6.old HV.out)).mono ?_; rintro e w7 ⟨rfl, rfl⟩) | ((with_reducible show wpList _ _ _ _ _ _); refine wpl_loadA rfl 56 _ rfl Tryz.aObj (gz) (0) rfl ([.int .i64 okind, .slice da odata.length dc, .slice ia oitems.length ic, .string otree, .slice pa oparents.length pc, .int .i64 ostamp, .int .i64 oauthor, .string omsg]) rfl (fun i u h => by rw [Nat.zero_add]; exact hs6.rcell (List.mem_cons_of_mem _ (List.mem_cons_self ..)) h) ?_) | ((with_reducible show wpList _ _ _ _ _ _); refine wpl_storeA rfl 56 _ _ rfl Tryz.aObj (hs6.perm (R' := [_, _, _, _, _, _]) (List.perm_append_comm (l₁ := [_, _, _, _, _]) (l₂ := [_]))) (0) rfl ([.int .i64 okind, .slice da odata.length dc, .slice ia oitems.length ic, .string otree, .slice pa oparents.length pc, .int .i64 ostamp, .int .i64 oauthor, .string omsg]) rfl (by rfl) (by simp) (by intro u hu; simp at hu; rcases hu with rfl | rfl | rfl | rfl | rfl | rfl | rfl | rfl <;> rfl) ?_; intro w9 hs9))
        replace hs9 := hs9.cast rfl (show _ = [.int .i64 okind, .slice da odata.length dc, .slice ia oitems.length ic, .string otree, .slice pa oparents.length pc, .int .i64 ostamp, .int .i64 oauthor, .string omsg] by simp)
        have hcw : ∀ i u, ([.int .i64 okind, .slice da odata.length dc, .slice ia oitems.length ic, .string otree, .slice pa oparents.length pc, .int .i64 ostamp, .int .i64 oauthor, .string omsg])[i]? = some u → w9.cell? ⟨w.heap.size, i, none⟩ = some u := fun i u h => hs9.rcell (List.mem_cons_self ..) h
        refine bodyPost_ret (v := .tuple #[.agg ([.int .i64 okind, .slice da odata.length dc, .slice ia oitems.length ic, .string otree, .slice pa oparents.length pc, .int .i64 ostamp, .int .i64 oauthor, .string omsg]).toArray, .int .i64 0]) (results_cellA2 Tryz.results46 _ Tryz.aObj (g := w.heap.size) ([.int .i64 okind, .slice da odata.length dc, .slice ia oitems.length ic, .string otree, .slice pa oparents.length pc, .int .i64 ostamp, .int .i64 oauthor, .string omsg]) ?_ rfl hcw ?_) ?_ ⟨_, _, _, by rw [HF.out]; rfl, by rw [HF.out]; exact hs9.tail.tail.tail⟩
        · first | (simp; done) | simp [Act.put]
        · first | (simp; done) | simp [Act.put]
        · first | (simp; done) | simp [Act.put]
      · go_simp
        have HZ2 := Mx.hid (HZ.out.madeAt ([.int .i64 (0), .slice none 0 0, .slice none 0 0, .string (str []), .slice none 0 0, .int .i64 (0), .int .i64 (0), .string (str [])]).toArray 56 8 1 (w.heap.size + 1) rfl (by simp [maxLen]) (by rw [heap_size_alloc])).drew
        (refine hK.out _ _ ?_ (fun hHeld => ?_); (focus ((try dsimp only); exact HW.out _ _ _ HZ2.out)); clear hK K; (try simp only [Act.put, List.setIfInBounds_toArray, List.set_cons_zero, List.set_cons_succ]))
        (refine wpAnyS_ready (rs := [6]) (by kernel_rfl) (by simp) ?_; refine AllS.consL rfl (fun K hK => ?_) AllS.nil)
        (go_simp; go_at_call 65; refine (HR.out _ HZ2.out.bare).mono ?_; rintro e w3 ⟨dv, iv, pv, rfl, hk3⟩; obtain ⟨da, dc, rfl, _⟩ := id hk3.sl0; obtain ⟨ia, ic, rfl, _⟩ := id hk3.sl1; obtain ⟨pa, pc, rfl, _⟩ := id hk3.sl2; have hs3 := HZ2.out.call hk3; go_wp2_with fail)
        replace hs3 := hs3.perm (perm_zr _ _ _ _ _)
        have hs4 := hs3
        (refine hK.out _ _ ?_ (fun hHeld => ?_); (focus ((try dsimp only); exact HW.out _ _ _ hs3)); clear hK K; (try simp only [Act.put, List.setIfInBounds_toArray, List.set_cons_zero, List.set_cons_succ]))
        (refine wpAnyS_seq (by rfl) (by kernel_rfl) ?_; simp only [List.drop_succ_cons, List.drop_zero])
        clear hs3
        generalize w.heap.size + 1 = gz at hs4 ⊢
        go_wp2_with (first | ((with_reducible show wpList _ _ _ _ _ _); refine wpl_want rfl ?_) | (((with_reducible show wpList _ _ _ _ _ _); refine wpl_storeA rfl 56 _ _ rfl Tryz.aObj hs4 (0) rfl ([.int .i64 okind, .slice da odata.length dc, .slice ia oitems.length ic, .string otree, .slice pa oparents.length pc, .int .i64 ostamp, .int .i64 oauthor, .string omsg]) rfl (by rfl) (by simp) (by intro u hu; simp at hu; rcases hu with rfl | rfl | rfl | rfl | rfl | rfl | rfl | rfl <;> rfl) ?_; intro w5 hs5); replace hs5 := hs5.cast rfl (show _ = [.int .i64 okind, .slice da odata.length dc, .slice ia oitems.length ic, .string otree, .slice pa oparents.length pc, .int .i64 ostamp, .int .i64 oauthor, .string omsg] by simp)) | ((with_reducible show wpList _ _ _ _ _ _); refine wpl_loadA rfl 56 _ rfl Tryz.aObj (gz) (0) rfl ([.int .i64 okind, .slice da odata.length dc, .slice ia oitems.length ic, .string otree, .slice pa oparents.length pc, .int .i64 ostamp, .int .i64 oauthor, .string omsg]) rfl (fun i u h => by rw [Nat.zero_add]; exact hs5.rcell (List.mem_cons_self ..) h) ?_) | (go_at_call 18; refine (HEN.out _ _ _ _ _ hs5.tail).mono ?_; rintro e w6 ⟨xv, rfl, hk6⟩; obtain ⟨xa, xb, rfl, _⟩ := id hk6.sl0; have hs6 := hs5.call1 hk6) | (go_at_call 66; refine (bequal_any _ _ _ _ _ (hs6.sl0) (hs6.old HV.out)).mono ?_; rintro e w7 ⟨rfl, rfl⟩) | ((with_reducible show wpList _ _ _ _ _ _); refine wpl_loadA rfl 56 _ rfl Tryz.aObj (gz) (0) rfl ([.int .i64 okind, .slice da odata.length dc, .slice ia oitems.length ic, .string otree, .slice pa oparents.length pc, .int .i64 ostamp, .int .i64 oauthor, .string omsg]) rfl (fun i u h => by rw [Nat.zero_add]; exact hs6.rcell (List.mem_cons_of_mem _ (List.mem_cons_self ..)) h) ?_) | ((with_reducible show wpList _ _ _ _ _ _); refine wpl_storeA rfl 56 _ _ rfl Tryz.aObj (hs6.perm (R' := [_, _, _, _, _, _]) (List.perm_append_comm (l₁ := [_, _, _, _, _]) (l₂ := [_]))) (0) rfl ([.int .i64 okind, .slice da odata.length dc, .slice ia oitems.length ic, .string otree, .slice pa oparents.length pc, .int .i64 ostamp, .int .i64 oauthor, .string omsg]) rfl (by rfl) (by simp) (by intro u hu; simp at hu; rcases hu with rfl | rfl | rfl | rfl | rfl | rfl | rfl | rfl <;> rfl) ?_; intro w9 hs9))
        replace hs9 := hs9.cast rfl (show _ = [.int .i64 okind, .slice da odata.length dc, .slice ia oitems.length ic, .string otree, .slice pa oparents.length pc, .int .i64 ostamp, .int .i64 oauthor, .string omsg] by simp)
        have hcw : ∀ i u, ([.int .i64 okind, .slice da odata.length dc, .slice ia oitems.length ic, .string otree, .slice pa oparents.length pc, .int .i64 ostamp, .int .i64 oauthor, .string omsg])[i]? = some u → w9.cell? ⟨w.heap.size, i, none⟩ = some u := fun i u h => hs9.rcell (List.mem_cons_self ..) h
        refine bodyPost_ret (v := .tuple #[.agg ([.int .i64 okind, .slice da odata.length dc, .slice ia oitems.length ic, .string otree, .slice pa oparents.length pc, .int .i64 ostamp, .int .i64 oauthor, .string omsg]).toArray, .int .i64 0]) (results_cellA2 Tryz.results46 _ Tryz.aObj (g := w.heap.size) ([.int .i64 okind, .slice da odata.length dc, .slice ia oitems.length ic, .string otree, .slice pa oparents.length pc, .int .i64 ostamp, .int .i64 oauthor, .string omsg]) ?_ rfl hcw ?_) ?_ ⟨_, _, _, by rw [HF.out]; rfl, by rw [HF.out]; exact hs9.tail.tail.tail⟩
        · first | (simp; done) | simp [Act.put]
        · first | (simp; done) | simp [Act.put]
        · first | (simp; done) | simp [Act.put]
    · have HF := Mx.hid (show decO (k :: r) = (noOb, 4) by rw [HQ2.out, if_neg (fun h => hb h.2)])
      have hbd := decide_eq_false hb
      clear hoz HQ2 hm
      generalize hEL : encL ⟨okind, odata, oitems, otree, oparents, ostamp, oauthor, omsg⟩ = EL at *
      have HEL := Mx.hid hEL
      have HB := Mx.hid hb
      clear hEL hb
      go_enter Tryz.func46, Tryz.ntmps46
      go_wp2_with fail
      (refine wp_region_S (8) (fun W' => W'.cell? ⟨blk, off, none⟩ = some (.int .u8 kk)) (by kernel_rfl) ?_ (fun hHeld => ?_); (focus ((try dsimp only); exact HW.out _ _ _ HZ.out.drew)))
      (refine wpAnyS_takeL (i := 0) (v := ?_) rfl (by kernel_rfl) (by kernel_rfl) (by kernel_rfl) (by kernel_rfl) (by kernel_rfl) (by kernel_rfl) (fun _ _ _ h => h) (Or.inl ⟨by rfl, ?_⟩) hHeld ?_; rotate_left 1; (focus (intro w' hSw; (try dsimp only at hSw); go_simp; (try with_reducible rfl))); (try simp only [Act.put, List.setIfInBounds_toArray, List.set_cons_zero, List.set_cons_succ]))
      (refine wpAnyS_takeW (i := 1) (v := ?_) rfl (by kernel_rfl) (by kernel_rfl) (by kernel_rfl) (by kernel_rfl) (fun _ _ _ h => h) (Or.inl ⟨by rfl, ?_⟩) hHeld ?_; rotate_left 1; (focus (intro w' hSw; go_simp; (try with_reducible rfl))); (try simp only [Act.put, List.setIfInBounds_toArray, List.set_cons_zero, List.set_cons_succ]))
      (refine wpAnyS_takeL (i := 2) (v := ?_) rfl (by kernel_rfl) (by kernel_rfl) (by kernel_rfl) (by kernel_rfl) (by kernel_rfl) (by kernel_rfl) (fun _ _ _ h => h) (Or.inl ⟨by rfl, ?_⟩) hHeld ?_; rotate_left 1; (focus (intro w' hSw; (try dsimp only at hSw); go_simp; (try with_reducible rfl))); (try simp only [Act.put, List.setIfInBounds_toArray, List.set_cons_zero, List.set_cons_succ]))
      (refine wpAnyS_takeW (i := 3) (v := ?_) rfl (by kernel_rfl) (by kernel_rfl) (by kernel_rfl) (by kernel_rfl) (fun _ _ _ h => h) (Or.inl ⟨by rfl, ?_⟩) hHeld ?_; rotate_left 1; (focus (intro w' hSw; go_simp; (try with_reducible rfl))); (try simp only [Act.put, List.setIfInBounds_toArray, List.set_cons_zero, List.set_cons_succ]))
      (refine wpAnyS_takeW (i := 4) (v := ?_) rfl (by kernel_rfl) (by kernel_rfl) (by kernel_rfl) (by kernel_rfl) (fun _ _ _ h => h) (Or.inl ⟨by rfl, ?_⟩) hHeld ?_; rotate_left 1; (focus (intro w' hSw; go_simp; (try with_reducible rfl))); (try simp only [Act.put, List.setIfInBounds_toArray, List.set_cons_zero, List.set_cons_succ]))
      (refine wpAnyS_takeW (i := 5) (v := ?_) rfl (by kernel_rfl) (by kernel_rfl) (by kernel_rfl) (by kernel_rfl) (fun _ _ _ h => h) (Or.inl ⟨by rfl, ?_⟩) hHeld ?_; rotate_left 1; (focus (intro w' hSw; go_simp; (try with_reducible rfl))); (try simp only [Act.put, List.setIfInBounds_toArray, List.set_cons_zero, List.set_cons_succ]))
      refine wpAnyS_ready (rs := [6, 7]) (by kernel_rfl) (by simp) ?_
      refine AllS.consL rfl (fun K hK => ?_) (AllS.consL rfl (fun K hK => ?_) AllS.nil)
      · (go_simp; go_at_call 65; refine (HR.out _ HZ.out.drew.bare).mono ?_; rintro e w3 ⟨dv, iv, pv, rfl, hk3⟩; obtain ⟨da, dc, rfl, _⟩ := id hk3.sl0; obtain ⟨ia, ic, rfl, _⟩ := id hk3.sl1; obtain ⟨pa, pc, rfl, _⟩ := id hk3.sl2; have hs3 := HZ.out.drew.call hk3; go_wp2_with fail)
        (refine hK.out _ _ ?_ (fun hHeld => ?_); (focus ((try dsimp only); exact HW.out _ _ _ hs3)); clear hK K; (try simp only [Act.put, List.setIfInBounds_toArray, List.set_cons_zero, List.set_cons_succ]))
        (refine wpAnyS_ready (rs := [7]) (by kernel_rfl) (by simp) ?_; refine AllS.consL rfl (fun K hK => ?_) AllS.nil)
        go_simp
        have hs4 := hs3.madeAt ([.int .i64 (0), .slice none 0 0, .slice none 0 0, .string (str []), .slice none 0 0, .int .i64 (0), .int .i64 (0), .string (str [])]).toArray 56 8 1 w3.heap.size rfl (by simp [maxLen]) rfl
        (refine hK.out _ _ ?_ (fun hHeld => ?_); (focus ((try dsimp only); exact HW.out _ _ _ hs4)); clear hK K; (try simp only [Act.put, List.setIfInBounds_toArray, List.set_cons_zero, List.set_cons_succ]))
        (refine wpAnyS_seq (by rfl) (by kernel_rfl) ?_; simp only [List.drop_succ_cons, List.drop_zero])
        generalize w3.heap.size = gz at *
        go_wp2_with (first | ((with_reducible show wpList _ _ _ _ _ _); refine wpl_want rfl ?_) | (((with_reducible show wpList _ _ _ _ _ _); refine wpl_storeA rfl 56 _ _ rfl Tryz.aObj hs4 (0) rfl ([.int .i64 okind, .slice da odata.length dc, .slice ia oitems.length ic, .string otree, .slice pa oparents.length pc, .int .i64 ostamp, .int .i64 oauthor, .string omsg]) rfl (by rfl) (by simp) (by intro u hu; simp at hu; rcases hu with rfl | rfl | rfl | rfl | rfl | rfl | rfl | rfl <;> rfl) ?_; intro w5 hs5); replace hs5 := hs5.cast rfl (show _ = [.int .i64 okind, .slice da odata.length dc, .slice ia oitems.length ic, .string otree, .slice pa oparents.length pc, .int .i64 ostamp, .int .i64 oauthor, .string omsg] by simp)) | ((with_reducible show wpList _ _ _ _ _ _); refine wpl_loadA rfl 56 _ rfl Tryz.aObj (gz) (0) rfl ([.int .i64 okind, .slice da odata.length dc, .slice ia oitems.length ic, .string otree, .slice pa oparents.length pc, .int .i64 ostamp, .int .i64 oauthor, .string omsg]) rfl (fun i u h => by rw [Nat.zero_add]; exact hs5.rcell (List.mem_cons_self ..) h) ?_) | (go_at_call 18; refine (HEN.out _ _ _ _ _ hs5.tail).mono ?_; rintro e w6 ⟨xv, rfl, hk6⟩; obtain ⟨xa, xb, rfl, _⟩ := id hk6.sl0; have hs6 := hs5.call1 hk6) | (go_at_call 66; refine (bequal_any _ _ _ _ _ (hs6.sl0) (hs6.old HV.out)).mono ?_; rintro e w7 ⟨rfl, rfl⟩) | ((with_reducible show wpList _ _ _ _ _ _); refine wpl_storeA rfl 56 _ _ rfl Tryz.aObj (hs6.perm (R' := [_, _, _, _, _, _]) (List.perm_append_comm (l₁ := [_, _, _, _, _]) (l₂ := [_]))) (0) rfl ([.int .i64 (0), .slice none 0 0, .slice none 0 0, .string (str []), .slice none 0 0, .int .i64 (0), .int .i64 (0), .string (str [])]) rfl (by rfl) (by simp) (by intro u hu; simp at hu; rcases hu with rfl | rfl | rfl | rfl | rfl | rfl | rfl | rfl <;> rfl) ?_; intro w9 hs9))
        replace hs9 := hs9.cast rfl (show _ = [.int .i64 (0), .slice none 0 0, .slice none 0 0, .string (str []), .slice none 0 0, .int .i64 (0), .int .i64 (0), .string (str [])] by simp)
        have hcw : ∀ i u, ([.int .i64 (0), .slice none 0 0, .slice none 0 0, .string (str []), .slice none 0 0, .int .i64 (0), .int .i64 (0), .string (str [])])[i]? = some u → w9.cell? ⟨w.heap.size, i, none⟩ = some u := fun i u h => hs9.rcell (List.mem_cons_self ..) h
        refine bodyPost_ret (v := .tuple #[.agg ([.int .i64 (0), .slice none 0 0, .slice none 0 0, .string (str []), .slice none 0 0, .int .i64 (0), .int .i64 (0), .string (str [])]).toArray, .int .i64 4]) (results_cellA2 Tryz.results46 _ Tryz.aObj (g := w.heap.size) ([.int .i64 (0), .slice none 0 0, .slice none 0 0, .string (str []), .slice none 0 0, .int .i64 (0), .int .i64 (0), .string (str [])]) ?_ rfl hcw ?_) ?_ ⟨_, _, _, by rw [HF.out]; rfl, by rw [HF.out]; exact ((hs9.bare.addNil _ _).addNil _ _).addNil _ _⟩
        · first | (simp; done) | simp [Act.put]
        · first | (simp; done) | simp [Act.put]
        · first | (simp; done) | simp [Act.put]
      · go_simp
        have HZ2 := Mx.hid (HZ.out.madeAt ([.int .i64 (0), .slice none 0 0, .slice none 0 0, .string (str []), .slice none 0 0, .int .i64 (0), .int .i64 (0), .string (str [])]).toArray 56 8 1 (w.heap.size + 1) rfl (by simp [maxLen]) (by rw [heap_size_alloc])).drew
        (refine hK.out _ _ ?_ (fun hHeld => ?_); (focus ((try dsimp only); exact HW.out _ _ _ HZ2.out)); clear hK K; (try simp only [Act.put, List.setIfInBounds_toArray, List.set_cons_zero, List.set_cons_succ]))
        (refine wpAnyS_ready (rs := [6]) (by kernel_rfl) (by simp) ?_; refine AllS.consL rfl (fun K hK => ?_) AllS.nil)
        (go_simp; go_at_call 65; refine (HR.out _ HZ2.out.bare).mono ?_; rintro e w3 ⟨dv, iv, pv, rfl, hk3⟩; obtain ⟨da, dc, rfl, _⟩ := id hk3.sl0; obtain ⟨ia, ic, rfl, _⟩ := id hk3.sl1; obtain ⟨pa, pc, rfl, _⟩ := id hk3.sl2; have hs3 := HZ2.out.call hk3; go_wp2_with fail)
        replace hs3 := hs3.perm (perm_zr _ _ _ _ _)
        have hs4 := hs3
        (refine hK.out _ _ ?_ (fun hHeld => ?_); (focus ((try dsimp only); exact HW.out _ _ _ hs3)); clear hK K; (try simp only [Act.put, List.setIfInBounds_toArray, List.set_cons_zero, List.set_cons_succ]))
        (refine wpAnyS_seq (by rfl) (by kernel_rfl) ?_; simp only [List.drop_succ_cons, List.drop_zero])
        clear hs3
        generalize w.heap.size + 1 = gz at hs4 ⊢
        go_wp2_with (first | ((with_reducible show wpList _ _ _ _ _ _); refine wpl_want rfl ?_) | (((with_reducible show wpList _ _ _ _ _ _); refine wpl_storeA rfl 56 _ _ rfl Tryz.aObj hs4 (0) rfl ([.int .i64 okind, .slice da odata.length dc, .slice ia oitems.length ic, .string otree, .slice pa oparents.length pc, .int .i64 ostamp, .int .i64 oauthor, .string omsg]) rfl (by rfl) (by simp) (by intro u hu; simp at hu; rcases hu with rfl | rfl | rfl | rfl | rfl | rfl | rfl | rfl <;> rfl) ?_; intro w5 hs5); replace hs5 := hs5.cast rfl (show _ = [.int .i64 okind, .slice da odata.length dc, .slice ia oitems.length ic, .string otree, .slice pa oparents.length pc, .int .i64 ostamp, .int .i64 oauthor, .string omsg] by simp)) | ((with_reducible show wpList _ _ _ _ _ _); refine wpl_loadA rfl 56 _ rfl Tryz.aObj (gz) (0) rfl ([.int .i64 okind, .slice da odata.length dc, .slice ia oitems.length ic, .string otree, .slice pa oparents.length pc, .int .i64 ostamp, .int .i64 oauthor, .string omsg]) rfl (fun i u h => by rw [Nat.zero_add]; exact hs5.rcell (List.mem_cons_self ..) h) ?_) | (go_at_call 18; refine (HEN.out _ _ _ _ _ hs5.tail).mono ?_; rintro e w6 ⟨xv, rfl, hk6⟩; obtain ⟨xa, xb, rfl, _⟩ := id hk6.sl0; have hs6 := hs5.call1 hk6) | (go_at_call 66; refine (bequal_any _ _ _ _ _ (hs6.sl0) (hs6.old HV.out)).mono ?_; rintro e w7 ⟨rfl, rfl⟩) | ((with_reducible show wpList _ _ _ _ _ _); refine wpl_storeA rfl 56 _ _ rfl Tryz.aObj (hs6.perm (R' := [_, _, _, _, _, _]) (List.perm_append_comm (l₁ := [_, _, _, _, _]) (l₂ := [_]))) (0) rfl ([.int .i64 (0), .slice none 0 0, .slice none 0 0, .string (str []), .slice none 0 0, .int .i64 (0), .int .i64 (0), .string (str [])]) rfl (by rfl) (by simp) (by intro u hu; simp at hu; rcases hu with rfl | rfl | rfl | rfl | rfl | rfl | rfl | rfl <;> rfl) ?_; intro w9 hs9))
        replace hs9 := hs9.cast rfl (show _ = [.int .i64 (0), .slice none 0 0, .slice none 0 0, .string (str []), .slice none 0 0, .int .i64 (0), .int .i64 (0), .string (str [])] by simp)
        have hcw : ∀ i u, ([.int .i64 (0), .slice none 0 0, .slice none 0 0, .string (str []), .slice none 0 0, .int .i64 (0), .int .i64 (0), .string (str [])])[i]? = some u → w9.cell? ⟨w.heap.size, i, none⟩ = some u := fun i u h => hs9.rcell (List.mem_cons_self ..) h
        refine bodyPost_ret (v := .tuple #[.agg ([.int .i64 (0), .slice none 0 0, .slice none 0 0, .string (str []), .slice none 0 0, .int .i64 (0), .int .i64 (0), .string (str [])]).toArray, .int .i64 4]) (results_cellA2 Tryz.results46 _ Tryz.aObj (g := w.heap.size) ([.int .i64 (0), .slice none 0 0, .slice none 0 0, .string (str []), .slice none 0 0, .int .i64 (0), .int .i64 (0), .string (str [])]) ?_ rfl hcw ?_) ?_ ⟨_, _, _, by rw [HF.out]; rfl, by rw [HF.out]; exact ((hs9.bare.addNil _ _).addNil _ _).addNil _ _⟩
        · first | (simp; done) | simp [Act.put]
        · first | (simp; done) | simp [Act.put]
        · first | (simp; done) | simp [Act.put]
end Go.Proofs.YtloogjdafhjheaaGreat
