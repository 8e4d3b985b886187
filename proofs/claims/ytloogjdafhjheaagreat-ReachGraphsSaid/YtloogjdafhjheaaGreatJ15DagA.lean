/- Walk of dag's Add. The graph of commits that names reach: the plain mathematics (no program in sight). -/
import Derived.Test.YtloogjdafhjheaaGreatJ14SrtB
import Derived.Test.YtloogjdafhjheaaGreatJ3Held
import Derived.Test.YtloogjdafhjheaaGreatJ13Met
import Derived.Test.YtloogjdafhjheaaGreatJ6WireP
namespace Go.Mx
open Go Go.RowKit
/-- What Add answers. -/
def addE (L : List Nd) (id : ByteArray) (ps : List ByteArray) (s : Int) : Int :=
  if id = ByteArray.empty then 6 else if isIn L id = true then 8 else if ps.all (isIn L) = false then 7 else if (ps.all fun p => decide (stampL L p < s)) = false ∨ s < 0 then 1 else if 2000 ≤ L.length then 14 else 0
theorem addE_def (L : List Nd) (id : ByteArray) (ps : List ByteArray) (s : Int) : addE L id ps s = if id = ByteArray.empty then 6 else if isIn L id = true then 8 else if ps.all (isIn L) = false then 7 else if (ps.all fun p => decide (stampL L p < s)) = false ∨ s < 0 then 1 else if 2000 ≤ L.length then 14 else 0 := rfl
def AddPost (g B : Nat) (G : List Gd) (id : ByteArray) (ps : List ByteArray) (s : Int) (w : World) (e : Ending) (w' : World) : Prop :=
  e = .returned (.int .i64 (addE (G.map (·.2)) id ps s)) ∧ w.grownBy w' (some B) ∧ w.heap.size ≤ w'.heap.size ∧
  ((addE (G.map (·.2)) id ps s ≠ 0 ∧ GR w' g B G ∧ St w w' [] []) ∨ (addE (G.map (·.2)) id ps s = 0 ∧ ∃ v, GR w' g B (G ++ [(v, id, uniqL ps, s)])))
/-- The same, with the new commit's parents told to be new. -/
def AddPost2 (g B : Nat) (G : List Gd) (id : ByteArray) (ps : List ByteArray) (s : Int) (w : World) (e : Ending) (w' : World) : Prop :=
  e = .returned (.int .i64 (addE (G.map (·.2)) id ps s)) ∧ w.grownBy w' (some B) ∧ w.heap.size ≤ w'.heap.size ∧
  ((addE (G.map (·.2)) id ps s ≠ 0 ∧ GR w' g B G ∧ St w w' [] []) ∨ (addE (G.map (·.2)) id ps s = 0 ∧ ∃ v, GR w' g B (G ++ [(v, id, uniqL ps, s)]) ∧ ∀ b, v.ownBlock = some b → w.heap.size ≤ b))
theorem grown_of_below {w w' : World} (h : Below w.heap.size w w') (b : Option Nat) : w.grownBy w' b := ⟨h.os, h.tape, h.output, h.size, fun i hi _ => h.block i hi⟩
theorem max_run (a b : Int) : max a b = max a b := rfl
theorem stamp_fold (L : List Nd) (ps : List ByteArray) (t s : Int) : (ps.foldl (fun t p => max t (stampL L p)) t < s) ↔ t < s ∧ ∀ p ∈ ps, stampL L p < s := by
  induction ps generalizing t with
  | nil => simp
  | cons p ps ih =>
    rw [List.foldl_cons, ih]
    constructor
    · rintro ⟨h1, h2⟩
      exact ⟨by omega, fun q hq => by rcases List.mem_cons.1 hq with rfl | hq; omega; exact h2 q hq⟩
    · rintro ⟨h1, h2⟩
      have := h2 p (by simp)
      exact ⟨by omega, fun q hq => h2 q (by simp [hq])⟩
theorem wpl_mset0 {P : Program} {w : World} {ops : Array Oper} {rest : List Oper} {o : Oper} {a : Act} {Q : Exit → Act → World → Prop} (hgd : o.guard = none) (t : TypeId) (m x v : Operand) (ho : o.op = .mapUpdate t m x v)
    {kt et : TypeId} (ht : P.underlying t = some (.map kt et)) (hk : P.underlying kt = some .string) {b : Nat} {l : List Ent} (hm : Mp w b l) (hme : a.eval m = .map (some b)) (k : ByteArray) (hx : a.eval x = .string k) (u : Value) (hu : a.eval v = u)
    (h : ∀ w', Mp w' b (mset l k u) → w.grownBy w' (some b) → w'.heap.size = w.heap.size → wpList P ops Q rest (a.put o.dst undef) w') : wpList P ops Q (o :: rest) a w := by
  subst hu
  refine wpList_plain hgd fun K hK => ?_
  obtain ⟨w', hr, h1, h2, h3⟩ := run_mset (P := P) ht hk hm k (a.eval v)
  unfold Oper.wp execOp
  simp only [ho, hme, hx, Sem.run_bind, hr, Result.andThen_ok, Sem.run_pure]
  exact hK _ _ (h w' h1 h2 h3)
theorem Sl.kept {w w' : World} {size : Nat} {v : Value} {n : Nat} {xs : List Value} (h : Sl w size v n xs) {b : Nat} (hn : NoRow w b) (hg : w.grownBy w' (some b)) : Sl w' size v n xs :=
  h.same fun hne c hc hlt => hg.block c hlt (by
    intro e
    have := Option.some.inj e
    subst this
    exact hn.apartQ h hne hc)
theorem grown_after {w w1 w2 : World} {b : Nat} (h1 : Below w.heap.size w w1) (h2 : w1.grownBy w2 (some b)) : w.grownBy w2 (some b) where
  os := h2.os.trans h1.os
  tape := h2.tape.trans h1.tape
  output := h2.output.trans h1.output
  size := Nat.le_trans h1.size h2.size
  block i hi hb := (h2.block i (Nat.lt_of_lt_of_le hi h1.size) hb).trans (h1.block i hi)
/-- The graph with a commit more. -/
theorem GR.add {w w' : World} {g B : Nat} {G : List Gd} {id : ByteArray} {u : Value} {ps : List ByteArray} {s : Int} (h : GR w g B G) (hgB : g ≠ B) (hn : isIn (G.map (·.2)) id = false) (hu : Sl w 1 u ps.length (ss ps)) (hl : ps.length ≤ 1000000) (hlen : ¬ 2000 ≤ G.length)
    (hm : Mp w' B (mset (G.map gent) id (.agg #[u, .int .i64 s]))) (hg : w.grownBy w' (some B)) : GR w' g B (G ++ [(u, id, ps, s)]) where
  cell := by
    rw [← h.cell]
    exact World.cell?_of_block (hg.block g (World.block_lt_of_cell? w _ h.cell) (fun e => hgB (Option.some.inj e)))
  mp := by
    have hf : fnd (G.map (·.2)) id = Option.none := by
      unfold isIn at hn
      cases hq : fnd (G.map (·.2)) id with
      | none => rfl
      | some q => rw [hq] at hn; cases hn
    rw [mset_none (GR.none hf)] at hm
    rw [List.map_append]
    exact hm
  sl q hq := by
    rcases List.mem_append.1 hq with hq | hq
    · exact (h.sl q hq).kept h.mp.noRow hg
    · rw [List.mem_singleton.1 hq]
      exact hu.kept h.mp.noRow hg
  few q hq := by
    rcases List.mem_append.1 hq with hq | hq
    · exact h.few q hq
    · rw [List.mem_singleton.1 hq]; exact hl
  len := by simp; omega
end Go.Mx
namespace Go.Proofs.YtloogjdafhjheaaGreat
open Go.RowKit Go.Mx

set_option maxRecDepth 100000 in
set_option maxHeartbeats 2000000 in
theorem add_g2 (g B : Nat) (G : List Gd) (id : ByteArray) (v : Value) (ps : List ByteArray) (s : Int) (w : World) (h : GR w g B G) (hgB : g ≠ B) (hv : Sl w 1 v ps.length (ss ps)) (hl : ps.length ≤ 1000000) (hs1 : -9223372036854775808 ≤ s) (hs2 : s ≤ 9223372036854775807)
    (hst : ∀ k, -1 ≤ stampL (G.map (·.2)) k ∧ stampL (G.map (·.2)) k ≤ 9223372036854775807) :
    Calls Tryz.prog 29 #[.pointer (some ⟨g, 0, none⟩), .string id, v, .int .i64 s] w (AddPost2 g B G id ps s w) := by
  obtain ⟨ao, cap, blk, off, rfl, h1, h2, _, hcc⟩ := hv.txt
  have HC := Mx.hid hcc
  have HV := Mx.hid hv
  have HR := Mx.hid (fun w' (hs : St w w' [] []) => h.st hs)
  have HH := Mx.hid (fun k w' (hs : St w w' [] []) => has_g g B G k w' (h.st hs))
  have HST := Mx.hid hst
  have HGB := Mx.hid hgB
  have HGET := Mx.hid (fun x n (hn : fnd (G.map (·.2)) x = some n) => h.get hn)
  have HA := Mx.hid (addE_def (G.map (·.2)) id ps s)
  have HLEN := Mx.hid h.len
  clear hcc hv h hst hgB
  by_cases hid : id = ByteArray.empty
  · have HE := Mx.hid (show addE (G.map (·.2)) id ps s = 6 by rw [HA.out, if_pos hid])
    have q : id.toList.isEmpty = true := by subst hid; rw [ByteArray.toList_eq]; rfl
    clear hid HA
    go_enter Tryz.func29, Tryz.ntmps29
    go_wp2_with fail
    go_ret
    exact ⟨by rw [HE.out]; rfl, grown_of_below (St.refl w).below _, (St.refl w).below.size, .inl ⟨by rw [HE.out]; decide, HR.out _ (St.refl w), (St.refl w)⟩⟩
  have q : id.toList.isEmpty = false := by
    rw [Bool.eq_false_iff]
    intro h
    rw [ByteArray.toList_eq, List.isEmpty_iff] at h
    apply hid
    apply ByteArray.ext
    apply Array.ext'
    rw [h]
    rfl
  cases hin : isIn (G.map (·.2)) id with
  | true =>
    have HE := Mx.hid (show addE (G.map (·.2)) id ps s = 8 by rw [HA.out, if_neg hid, if_pos hin])
    have HX := Mx.hid (HH.out id w (St.refl w))
    rw [hin] at HX
    clear hid HA hin
    go_enter Tryz.func29, Tryz.ntmps29
    go_wp2_with (go_at_call 12; refine HX.out.mono ?_; rintro e w1 ⟨rfl, hs⟩)
    go_ret
    exact ⟨by rw [HE.out]; rfl, grown_of_below hs.below _, hs.below.size, .inl ⟨by rw [HE.out]; decide, HR.out _ hs, hs⟩⟩
  | false =>
  rw [if_neg hid, if_neg (by simp [hin])] at HA
  have HX := Mx.hid (HH.out id w (St.refl w))
  rw [hin] at HX
  have HIN := Mx.hid (And.intro hid hin)
  clear hid hin
  go_enter Tryz.func29, Tryz.ntmps29
  go_wp2_with (go_at_call 12; refine HX.out.mono ?_; rintro e w1 ⟨rfl, hs⟩)
  go_loopw [9, 21] (fun x y wr => ∃ (i : Nat), i ≤ ps.length ∧ y = .int .i64 i ∧ x = .int .i64 ((ps.take i).foldl (fun t p => max t (stampL (G.map (·.2)) p)) (-1)) ∧ Hid ((ps.take i).all (isIn (G.map (·.2))) = true) ∧ Hid (-1 ≤ (ps.take i).foldl (fun t p => max t (stampL (G.map (·.2)) p)) (-1) ∧ (ps.take i).foldl (fun t p => max t (stampL (G.map (·.2)) p)) (-1) ≤ 9223372036854775807) ∧ St w wr [] []) (fun _ y _ => ps.length - (intOf y).toNat)
  case atStart => exact ⟨0, by omega, rfl, rfl, by simp [Hid], by simp [Hid], hs⟩
  case round =>
    clear hs
    obtain ⟨i, hi, rfl, rfl, HALL, HT, hs⟩ := hrel
    by_cases hlt : i < ps.length
    · obtain ⟨rfl, c1⟩ := HC.out i hlt
      replace c1 := hs.keep c1
      have HX := Mx.hid (HH.out ps[i] _ hs)
      have HTK := Mx.hid (List.take_succ_eq_append_getElem hlt)
      have HMEM := Mx.hid (List.getElem_mem hlt)
      cases hn : fnd (G.map (·.2)) ps[i] with
      | none =>
        rw [show isIn (G.map (·.2)) ps[i] = false by unfold isIn; rw [hn]; rfl] at HX
        have HE := Mx.hid (show addE (G.map (·.2)) id ps s = 7 by
          rw [HA.out, if_pos]
          rw [Bool.eq_false_iff]
          intro h
          have := List.all_eq_true.1 h _ HMEM.out
          unfold isIn at this
          rw [hn] at this
          cases this)
        clear hn HA
        generalize ps[i] = x at *
        go_wp2_with (go_at_call 12; refine HX.out.mono ?_; rintro e w2 ⟨rfl, hs2⟩; replace hs := hs.call0 hs2)
        go_ret
        exact ⟨by rw [HE.out]; rfl, grown_of_below hs.below _, hs.below.size, .inl ⟨by rw [HE.out]; decide, HR.out _ hs, hs⟩⟩
      | some n =>
        rw [show isIn (G.map (·.2)) ps[i] = true by unfold isIn; rw [hn]; rfl] at HX
        have HI1 := Mx.hid (show isIn (G.map (·.2)) ps[i] = true by unfold isIn; rw [hn]; rfl)
        have HS1 := Mx.hid (show stampL (G.map (·.2)) ps[i] = n.2 by unfold stampL; rw [hn])
        obtain ⟨pv, hpg, hps, _⟩ := HGET.out _ n hn
        have HPG := Mx.hid hpg
        have kf := Tryz.fldS
        have HS2 := HST.out ps[i]
        clear hn hpg hps
        generalize ps[i] = x at *
        generalize ht : (ps.take i).foldl (fun t p => max t (stampL (G.map (·.2)) p)) (-1) = tt at *
        have HTT := Mx.hid ht
        clear ht
        rw [HS1.out] at HS2
        obtain ⟨hb1, hb2⟩ := HS2
        go_wp2_with (first | (go_at_call 12; refine HX.out.mono ?_; rintro e w2 ⟨rfl, hs2⟩; replace hs := hs.call0 hs2; have hr4 := HR.out _ hs; have c4 := hr4.cell; have HM4 := Mx.hid hr4.mp; clear hr4) | ((with_reducible show wpList _ _ _ _ _ _); refine wpl_look rfl 79 _ _ false rfl Tryz.underlying79 Tryz.underlying9 Tryz.zeroNd (by exact HM4.out) rfl x rfl ?_; rw [HPG.out]))
        have hfold : (ps.take (i + 1)).foldl (fun t p => max t (stampL (G.map (·.2)) p)) (-1) = max tt n.2 := by rw [HTK.out, List.foldl_append, HTT.out]; show max tt (stampL (G.map (·.2)) x) = _; rw [HS1.out]
        have hT := HT.out
        refine ⟨⟨i + 1, by omega, by go_num, by rw [hfold], ?_, ?_, hs⟩, by simp [intOf]; omega⟩
        · show _ = _
          rw [HTK.out, List.all_append, HALL.out]
          simp [HI1.out]
        · rw [hfold]
          show _ ∧ _
          omega
    · have HALL2 := Mx.hid (show ps.all (isIn (G.map (·.2))) = true by have := HALL.out; rwa [List.take_of_length_le (by omega)] at this)
      rw [List.take_of_length_le (by omega)] at HT
      have HF := Mx.hid (stamp_fold (G.map (·.2)) ps (-1) s)
      have hge : (ps.length : Int) ≤ (i : Int) := by omega
      have hIi := i
      rw [List.take_of_length_le (show ps.length ≤ i by omega)]
      generalize hT : ps.foldl (fun t p => max t (stampL (G.map (·.2)) p)) (-1) = T at *
      obtain ⟨hT1, hT2⟩ := HT.out
      rw [if_neg (by rw [HALL2.out]; simp)] at HA
      clear hT hlt hi HALL
      by_cases hsT : s ≤ T
      · have qs : decide (s ≤ T) = true := decide_eq_true hsT
        have HE := Mx.hid (show addE (G.map (·.2)) id ps s = 1 by
          rw [HA.out, if_pos]
          by_cases h0 : s < 0
          · exact .inr h0
          · left
            rw [Bool.eq_false_iff]
            intro h
            have := HF.out.2 ⟨by omega, fun p hp => of_decide_eq_true (List.all_eq_true.1 h p hp)⟩
            omega)
        clear hsT HA HF
        go_wp2_with fail
        go_ret
        exact ⟨by rw [HE.out]; rfl, grown_of_below hs.below _, hs.below.size, .inl ⟨by rw [HE.out]; decide, HR.out _ hs, hs⟩⟩
      · have qs : decide (s ≤ T) = false := decide_eq_false hsT
        have hok := HF.out.1 (by omega)
        rw [if_neg (by
          rintro (h | h)
          · rw [List.all_eq_true.2 (fun p hp => decide_eq_true (hok.2 p hp))] at h
            cases h
          · omega)] at HA
        have hr4 := HR.out _ hs
        have c4 := hr4.cell
        have HM4 := Mx.hid hr4.mp
        have HRW := Mx.hid hr4
        have HLL := Mx.hid (show (G.map gent).length = G.length from List.length_map ..)
        rw [List.length_map] at HA
        clear hr4 hok HF
        by_cases hlim : 2000 ≤ G.length
        · have ql : decide ((2000 : Int) ≤ (G.length : Int)) = true := decide_eq_true (by omega)
          have ql2 : decide (2000 ≤ G.length) = true := decide_eq_true hlim
          have HE := Mx.hid (show addE (G.map (·.2)) id ps s = 14 by rw [HA.out, if_pos hlim])
          clear hlim HA
          go_wp2_with ((with_reducible show wpList _ _ _ _ _ _); refine wpl_mlen rfl 79 _ rfl Tryz.underlying79 HM4.out rfl ?_; rw [HLL.out])
          go_ret
          exact ⟨by rw [HE.out]; rfl, grown_of_below hs.below _, hs.below.size, .inl ⟨by rw [HE.out]; decide, HR.out _ hs, hs⟩⟩
        · have ql : decide ((2000 : Int) ≤ (G.length : Int)) = false := decide_eq_false (by omega)
          have ql2 : decide (2000 ≤ G.length) = false := decide_eq_false hlim
          have HE := Mx.hid (show addE (G.map (·.2)) id ps s = 0 by rw [HA.out, if_neg hlim])
          have HLIM := Mx.hid hlim
          have HU := Mx.hid (unique_any (.slice ao ps.length cap) ps wr.drew (hs.drew.old HV.out) (by omega))
          clear hlim HA
          go_wp2_with ((with_reducible show wpList _ _ _ _ _ _); refine wpl_mlen rfl 79 _ rfl Tryz.underlying79 HM4.out rfl ?_; rw [HLL.out])
          (refine wp_region_S (9) (fun W' => W'.cell? ⟨g, 0, none⟩ = some (.map (some B))) (by kernel_rfl) ?_ (fun hHeld => ?_); (focus ((try dsimp only); go_keep)))
          (refine wpAnyS_takeW (i := 0) (v := ?_) rfl (by kernel_rfl) (by kernel_rfl) (by kernel_rfl) (by kernel_rfl) (fun _ _ _ h => h) (Or.inl ⟨by rfl, ?_⟩) hHeld ?_; rotate_left 1; (focus (intro w' hSw; go_simp; (try with_reducible rfl))); (try simp only [Act.put, List.setIfInBounds_toArray, List.set_cons_zero, List.set_cons_succ]))
          (refine wpAnyS_takeW (i := 1) (v := ?_) rfl (by kernel_rfl) (by kernel_rfl) (by kernel_rfl) (by kernel_rfl) (fun _ _ _ h => h) (Or.inl ⟨by rfl, ?_⟩) hHeld ?_; rotate_left 1; (focus (intro w' hSw; go_simp; (try with_reducible rfl))); (try simp only [Act.put, List.setIfInBounds_toArray, List.set_cons_zero, List.set_cons_succ]))
          (refine wpAnyS_takeW (i := 2) (v := ?_) rfl (by kernel_rfl) (by kernel_rfl) (by kernel_rfl) (by kernel_rfl) (fun _ _ _ h => h) (Or.inl ⟨by rfl, ?_⟩) hHeld ?_; rotate_left 1; (focus (intro w' hSw; go_simp; (try with_reducible rfl))); (try simp only [Act.put, List.setIfInBounds_toArray, List.set_cons_zero, List.set_cons_succ]))
          (refine wpAnyS_takeL (i := 3) (v := ?_) rfl (by kernel_rfl) (by kernel_rfl) (by kernel_rfl) (by kernel_rfl) (by kernel_rfl) (by kernel_rfl) (fun _ _ _ h => h) (Or.inl ⟨by rfl, ?_⟩) hHeld ?_; rotate_left 1; (focus (intro w' hSw; (try dsimp only at hSw); go_simp; (try with_reducible rfl))); (try simp only [Act.put, List.setIfInBounds_toArray, List.set_cons_zero, List.set_cons_succ]))
          (refine wpAnyS_takeW (i := 4) (v := ?_) rfl (by kernel_rfl) (by kernel_rfl) (by kernel_rfl) (by kernel_rfl) (fun _ _ _ h => h) (Or.inl ⟨by rfl, ?_⟩) hHeld ?_; rotate_left 1; (focus (intro w' hSw; go_simp; (try with_reducible rfl))); (try simp only [Act.put, List.setIfInBounds_toArray, List.set_cons_zero, List.set_cons_succ]))
          (refine wpAnyS_takeW (i := 5) (v := ?_) rfl (by kernel_rfl) (by kernel_rfl) (by kernel_rfl) (by kernel_rfl) (fun _ _ _ h => h) (Or.inl ⟨by rfl, ?_⟩) hHeld ?_; rotate_left 1; (focus (intro w' hSw; go_simp; (try with_reducible rfl))); (try simp only [Act.put, List.setIfInBounds_toArray, List.set_cons_zero, List.set_cons_succ]))
          (refine wpAnyS_takeW (i := 7) (v := ?_) rfl (by kernel_rfl) (by kernel_rfl) (by kernel_rfl) (by kernel_rfl) (fun _ _ _ h => h) (Or.inl ⟨by rfl, ?_⟩) hHeld ?_; rotate_left 1; (focus (intro w' hSw; go_simp; (try with_reducible rfl))); (try simp only [Act.put, List.setIfInBounds_toArray, List.set_cons_zero, List.set_cons_succ]))
          (refine wpAnyS_ready (rs := [6]) (by kernel_rfl) (by simp) ?_; refine AllS.consL rfl (fun K hK => ?_) AllS.nil)
          (go_simp; go_at_call 49; refine (HU.out).mono ?_; rintro e w' ⟨vu, rfl, hu⟩; go_wp2_with fail)
          have hu0 := hu.sl0
          obtain ⟨ua, uc, rfl, _⟩ := hu0
          (refine hK.out _ _ ?_ (fun hHeld => ?_); (focus ((try dsimp only); exact hu.keep (by exact c4))); clear hK K; (try simp only [Act.put, List.setIfInBounds_toArray, List.set_cons_zero, List.set_cons_succ]))
          have hk := hs.drew.bare.call0 hu.bare
          have hr6 := HR.out _ hk
          have HR6 := Mx.hid hr6
          have HM6 := Mx.hid hr6.mp
          have HSL := Mx.hid hu.sl0
          have HFR := Mx.hid (fun b (hb : (Value.slice ua (uniqL ps).length uc).ownBlock = some b) => Nat.le_trans hs.size ((hu.own _ (List.mem_cons_self ..)).lt b hb).1)
          have HBE := Mx.hid hk.below
          clear hr6 hu hk c4
          (refine wpAnyS_takeW (i := 8) (v := ?_) rfl (by kernel_rfl) (by kernel_rfl) (by kernel_rfl) (by kernel_rfl) (fun _ _ _ h => h) (Or.inl ⟨by rfl, ?_⟩) hHeld ?_; rotate_left 1; (focus (intro w' hSw; go_simp; (try with_reducible rfl))); (try simp only [Act.put, List.setIfInBounds_toArray, List.set_cons_zero, List.set_cons_succ]))
          (refine wpAnyS_seq (by rfl) (by kernel_rfl) ?_; simp only [List.drop_succ_cons, List.drop_zero])
          go_wp2_with ((with_reducible show wpList _ _ _ _ _ _); refine wpl_mset0 rfl 79 _ _ _ rfl Tryz.underlying79 Tryz.underlying9 HM6.out rfl id rfl (.agg #[.slice ua (uniqL ps).length uc, .int .i64 s]) rfl ?_; intro w7 hm7 hg7 hz7)
          go_ret
          refine ⟨by rw [HE.out]; rfl, grown_after HBE.out hg7, by rw [hz7]; exact HBE.out.size, .inr ⟨HE.out, .slice ua (uniqL ps).length uc, HR6.out.add HGB.out HIN.out.2 HSL.out ?_ HLIM.out hm7 hg7, HFR.out⟩⟩
          exact Nat.le_trans (uniqL_len ps) hl
theorem add_g (g B : Nat) (G : List Gd) (id : ByteArray) (v : Value) (ps : List ByteArray) (s : Int) (w : World) (h : GR w g B G) (hgB : g ≠ B) (hv : Sl w 1 v ps.length (ss ps)) (hl : ps.length ≤ 1000000) (hs1 : -9223372036854775808 ≤ s) (hs2 : s ≤ 9223372036854775807)
    (hst : ∀ k, -1 ≤ stampL (G.map (·.2)) k ∧ stampL (G.map (·.2)) k ≤ 9223372036854775807) :
    Calls Tryz.prog 29 #[.pointer (some ⟨g, 0, none⟩), .string id, v, .int .i64 s] w (AddPost g B G id ps s w) :=
  (add_g2 g B G id v ps s w h hgB hv hl hs1 hs2 hst).mono fun _ _ ⟨h1, h2, h3, h4⟩ => ⟨h1, h2, h3, h4.imp_right fun ⟨h5, u, h6, _⟩ => ⟨h5, u, h6⟩⟩
end Go.Proofs.YtloogjdafhjheaaGreat

namespace Go.Mx
open Go Go.RowKit
/-- The commit that a name tells. -/
def cmt (f : ByteArray → Option (List UInt8)) (id : ByteArray) : Option Ob :=
  match f id with
  | some b => if (decO b).2 = 0 ∧ (decO b).1.kind = 3 then some (decO b).1 else none
  | none => none
/-- Its parents, its stamp. -/
def nbP (f : ByteArray → Option (List UInt8)) (id : ByteArray) : List ByteArray := match cmt f id with | some o => o.parents | none => []
def stp (f : ByteArray → Option (List UInt8)) (id : ByteArray) : Int := match cmt f id with | some o => o.stamp | none => 0
/-- All that is reached: commits, not too many. -/
structure GoodM (f : ByteArray → Option (List UInt8)) (ids : List ByteArray) (most : Nat) (M : List ByteArray) : Prop where
  clo : CloN (nbP f) ids M
  nod : M.Nodup
  all : ∀ m ∈ M, cmt f m ≠ none
  len : M.length ≤ most
theorem nodup_le {M M0 : List ByteArray} (h : M.Nodup) (hs : ∀ x ∈ M, x ∈ M0) : M.length ≤ M0.length := by
  induction M generalizing M0 with
  | nil => exact Nat.zero_le _
  | cons a M ih =>
    rw [List.nodup_cons] at h
    have ha := hs a (List.mem_cons_self ..)
    obtain ⟨s, t, rfl⟩ := List.append_of_mem ha
    have h1 := ih (M0 := s ++ t) h.2 (fun x hx => by
      have h2 := hs x (List.mem_cons_of_mem _ hx)
      simp only [List.mem_append, List.mem_cons] at h2 ⊢
      rcases h2 with h2 | rfl | h2
      · exact .inl h2
      · exact absurd hx h.1
      · exact .inr h2)
    simp only [List.length_append, List.length_cons] at h1 ⊢
    omega
/-- One that is no commit was reached: there is no graph. -/
theorem rg_bad {f : ByteArray → Option (List UInt8)} {ids Wk M : List ByteArray} {x : ByteArray} {most : Nat} (h : RJ (nbP f) ids Wk M) (hx : x ∈ Wk) (hc : cmt f x = none) : ∀ M0, ¬ GoodM f ids most M0 := fun _ g =>
  g.all x ((g.clo x).2 (h.a x (.inr hx))) hc
/-- Too many. -/
theorem rg_many {f : ByteArray → Option (List UInt8)} {ids Wk M : List ByteArray} {x : ByteArray} {most : Nat} (h : RJ (nbP f) ids Wk M) (hx : x ∈ Wk) (hm : x ∉ M) (hl : most ≤ M.length) : ∀ M0, ¬ GoodM f ids most M0 := fun M0 g => by
  have h1 := nodup_le (M := x :: M) (M0 := M0) (List.nodup_cons.2 ⟨hm, h.d⟩) (fun y hy => by
    rcases List.mem_cons.1 hy with rfl | hy
    · exact (g.clo _).2 (h.a _ (.inr hx))
    · exact (g.clo _).2 (h.a _ (.inl hy)))
  have := g.len
  rw [List.length_cons] at h1
  omega
theorem rg_done {f : ByteArray → Option (List UInt8)} {ids M : List ByteArray} {most : Nat} (h : RJ (nbP f) ids [] M) (hc : ∀ m ∈ M, cmt f m ≠ none) (hl : M.length ≤ most) : GoodM f ids most M :=
  ⟨h.done.1, h.done.2, hc, hl⟩
theorem GoodM.same {f : ByteArray → Option (List UInt8)} {ids M M' : List ByteArray} {most : Nat} (g : GoodM f ids most M) (g' : GoodM f ids most M') : (∀ x, x ∈ M ↔ x ∈ M') ∧ M.length = M'.length :=
  ⟨g.clo.eq g'.clo, Nat.le_antisymm (nodup_le g.nod fun x hx => (g.clo.eq g'.clo x).1 hx) (nodup_le g'.nod fun x hx => (g.clo.eq g'.clo x).2 hx)⟩

/-- A commit in the graph. -/
def ndOf (f : ByteArray → Option (List UInt8)) (id : ByteArray) : Nd := (id, uniqL (nbP f id), stp f id)
/-- The stamps rise from parents to children. -/
def Ups (f : ByteArray → Option (List UInt8)) (M : List ByteArray) : Prop := ∀ m ∈ M, ∀ p ∈ nbP f m, stp f p < stp f m
theorem fnd_no {L : List Nd} {k : ByteArray} : fnd L k = none ↔ k ∉ L.map Prod.fst := by
  induction L with
  | nil => simp [fnd]
  | cons n L ih =>
    rw [fnd, List.map_cons, List.mem_cons]
    split
    · rename_i h
      simp [h]
    · rename_i h
      rw [ih]
      simp [Ne.symm h]
theorem fnd_nd {f : ByteArray → Option (List UInt8)} {L : List ByteArray} {k : ByteArray} (h : k ∈ L) : fnd (L.map (ndOf f)) k = some (uniqL (nbP f k), stp f k) := by
  induction L with
  | nil => cases h
  | cons a L ih =>
    rw [List.map_cons, fnd]
    by_cases ha : (ndOf f a).1 = k
    · rw [if_pos ha]
      obtain rfl : a = k := ha
      rfl
    · rw [if_neg ha]
      rcases List.mem_cons.1 h with rfl | h
      · exact absurd rfl ha
      · exact ih h
theorem fnd_nd_no {f : ByteArray → Option (List UInt8)} {L : List ByteArray} {k : ByteArray} (h : k ∉ L) : fnd (L.map (ndOf f)) k = none := by
  rw [fnd_no]
  simpa [ndOf] using h
theorem isIn_nd {f : ByteArray → Option (List UInt8)} {L : List ByteArray} {k : ByteArray} : isIn (L.map (ndOf f)) k = true ↔ k ∈ L := by
  unfold isIn
  by_cases h : k ∈ L
  · rw [fnd_nd h]; simp [h]
  · rw [fnd_nd_no h]; simp [h]
/-- What was added stands as it should: then the stamps rise. -/
theorem add_ok {f : ByteArray → Option (List UInt8)} {L : List ByteArray} {id : ByteArray} (h : addE (L.map (ndOf f)) id (nbP f id) (stp f id) = 0) : ∀ p ∈ nbP f id, stp f p < stp f id := by
  intro p hp
  unfold addE at h
  split at h
  · omega
  · split at h
    · omega
    · split at h
      · omega
      · rename_i h1 h2 h3
        split at h
        · omega
        · rename_i h4
          have a1 : (nbP f id).all (isIn (L.map (ndOf f))) = true := by simpa using h3
          have a2 : ((nbP f id).all fun p => decide (stampL (L.map (ndOf f)) p < stp f id)) = true := by
            cases h5 : (nbP f id).all fun p => decide (stampL (L.map (ndOf f)) p < stp f id) with
            | true => rfl
            | false => exact absurd (.inl h5) h4
          have b1 := List.all_eq_true.1 a1 p hp
          have b2 := List.all_eq_true.1 a2 p hp
          rw [isIn_nd] at b1
          unfold stampL at b2
          rw [fnd_nd b1] at b2
          simpa using b2
/-- In rising order all can be added. -/
theorem add_all {f : ByteArray → Option (List UInt8)} {M L : List ByteArray} {i : Nat} (hi : i < L.length) (hM : ∀ x, x ∈ L ↔ x ∈ M) (hn : L.Nodup) (hc : ∀ m ∈ M, ∀ p ∈ nbP f m, p ∈ M) (hu : Ups f M) (hr : ∀ (a b : Nat) (ha : a < L.length) (hb : b < L.length), a ≤ b → stp f L[a] ≤ stp f L[b])
    (he : ∀ m ∈ M, m ≠ ByteArray.empty) (h0 : ∀ m ∈ M, 0 ≤ stp f m) (hl : L.length ≤ 2000) : addE ((L.take i).map (ndOf f)) L[i] (nbP f L[i]) (stp f L[i]) = 0 := by
  have hLi : L[i] ∈ M := (hM _).1 (List.getElem_mem hi)
  have hnot : L[i] ∉ L.take i := by
    intro h
    obtain ⟨j, hj, hje⟩ := List.mem_iff_getElem.1 h
    rw [List.length_take] at hj
    rw [List.getElem_take] at hje
    have := (List.getElem_inj (h₀ := by omega) (h₁ := hi) hn).1 hje
    omega
  have hpar : ∀ p ∈ nbP f L[i], p ∈ L.take i := by
    intro p hp
    have hpM := hc _ hLi p hp
    obtain ⟨j, hj, rfl⟩ := List.mem_iff_getElem.1 ((hM p).2 hpM)
    by_cases hji : j < i
    · rw [List.mem_take_iff_getElem]
      exact ⟨j, by omega, rfl⟩
    · have h1 := hr i j hi hj (by omega)
      have h2 := hu _ hLi _ hp
      omega
  unfold addE
  rw [if_neg (he _ hLi)]
  have hin : ¬ isIn ((L.take i).map (ndOf f)) L[i] = true := by rw [isIn_nd]; exact hnot
  rw [if_neg hin]
  have hall : (nbP f L[i]).all (isIn ((L.take i).map (ndOf f))) = true := List.all_eq_true.2 fun p hp => isIn_nd.2 (hpar p hp)
  rw [if_neg (by rw [hall]; simp)]
  have hst : ((nbP f L[i]).all fun p => decide (stampL ((L.take i).map (ndOf f)) p < stp f L[i])) = true := List.all_eq_true.2 fun p hp => by
    unfold stampL
    rw [fnd_nd (hpar p hp)]
    exact decide_eq_true (hu _ hLi p hp)
  rw [if_neg (by rw [hst]; have := h0 _ hLi; simp; omega), if_neg (by rw [List.length_map, List.length_take]; omega)]
end Go.Mx
