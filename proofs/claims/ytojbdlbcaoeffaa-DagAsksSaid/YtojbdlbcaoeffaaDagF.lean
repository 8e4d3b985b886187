/- marlaw11's helpers: Few, few, made. -/
import Derived.Test.YtojbdlbcaoeffaaRowNd
import Derived.Test.YtojbdlbcaoeffaaDagT
namespace Go.Mx
open Go Go.RowKit
theorem addE_ok {L : List Nd} {id : ByteArray} {ps : List ByteArray} {s : Int} (h : addE L id ps s = 0) : id ≠ ByteArray.empty ∧ fnd L id = none ∧ (∀ p ∈ ps, ∃ m, fnd L p = some m ∧ m.2 < s) ∧ 0 ≤ s := by
  unfold addE at h
  split at h
  · cases h
  rename_i h1
  split at h
  · cases h
  rename_i h2
  split at h
  · cases h
  rename_i h3
  split at h
  · cases h
  rename_i h4
  have h2' : fnd L id = none := by
    unfold isIn at h2
    cases hf : fnd L id with
    | none => rfl
    | some n => rw [hf] at h2; exact absurd rfl h2
  refine ⟨h1, h2', fun p hp => ?_, by omega⟩
  have h3' : ps.all (isIn L) = true := by cases hq : ps.all (isIn L) with | true => rfl | false => exact absurd hq h3
  have h5 := List.all_eq_true.1 h3' p hp
  have h4' : (ps.all fun p => decide (stampL L p < s)) = true := by
    cases hq : (ps.all fun p => decide (stampL L p < s)) with
    | true => rfl
    | false => exact absurd (Or.inl hq) h4
  have h6 := of_decide_eq_true (List.all_eq_true.1 h4' p hp)
  unfold isIn at h5
  cases hf : fnd L p with
  | none => rw [hf] at h5; cases h5
  | some m =>
    refine ⟨m, rfl, ?_⟩
    unfold stampL at h6
    rw [hf] at h6
    exact h6
theorem WF.add {L : List Nd} {id : ByteArray} {ps : List ByteArray} {s : Int} (hw : WF L) (h : addE L id ps s = 0) : WF (L ++ [(id, uniqL ps, s)]) := by
  obtain ⟨h1, h2, h3, h4⟩ := addE_ok h
  exact .snoc hw h2 h1 (uniqL_strict ps) (fun p hp => h3 p ((mem_uniqL ps p).1 hp)) h4
/-- Stamps are numbers of the machine. -/
def StB (L : List Nd) : Prop := ∀ k, -1 ≤ stampL L k ∧ stampL L k ≤ 9223372036854775807
theorem StB.nil : StB [] := fun _ => by unfold stampL fnd; decide
theorem StB.add {L : List Nd} {n : Nd} (h : StB L) (h0 : -1 ≤ n.2.2) (h1 : n.2.2 ≤ 9223372036854775807) : StB (L ++ [n]) := by
  intro k
  have := h k
  unfold stampL at this ⊢
  rw [fnd_app]
  cases hf : fnd L k with
  | some m => rw [hf] at this; exact this
  | none =>
    rw [Option.none_or, fnd]
    split
    · rename_i q hq
      split at hq
      · cases hq; exact ⟨h0, h1⟩
      · cases hq
    · decide
theorem GR.apart {w : World} {g B : Nat} {G : List Gd} (h : GR w g B G) : g ≠ B := by
  rintro rfl
  obtain ⟨o, ho, hn⟩ := h.mp.noRow
  have hc := h.cell
  unfold World.cell? at hc
  rw [ho] at hc
  cases o with
  | cells c e f => exact hn _ _ _ rfl
  | _ => simp_all
/-- A graph that a law's body may hold. -/
structure GG (w : World) (g B : Nat) (G : List Gd) : Prop where
  r : GR w g B G
  wf : WF (G.map (·.2))
  st : StB (G.map (·.2))
theorem GG.keep {w0 w : World} {R : List Row} {Q : List Rd} {g B : Nat} {G : List Gd} (h : GG w0 g B G) (hs : St w0 w R Q) : GG w g B G := ⟨h.r.st hs, h.wf, h.st⟩
def MadePost (w : World) (e : Ending) (w' : World) : Prop :=
  (e = .returned (.pointer none) ∧ St w w' [] []) ∨
  ∃ g B G, e = .returned (.pointer (some ⟨g, 0, none⟩)) ∧ GG w' g B G ∧ G.length ≤ 40 ∧ w.heap.size ≤ g ∧ w.heap.size ≤ B ∧ St w w' [] []
def NFewPost (l : List Gd) (w : World) (e : Ending) (w' : World) : Prop := (∃ b : Bool, e = .returned (.bool b) ∧ (b = true → l.length ≤ 40 ∧ ∀ q ∈ l, q.2.2.1.length ≤ 8)) ∧ w = w'
def FewPost (l : List ByteArray) (w : World) (e : Ending) (w' : World) : Prop := (∃ b : Bool, e = .returned (.bool b) ∧ (b = true → l.length ≤ 20)) ∧ w = w'
end Go.Mx
namespace Go.Proofs.Ytojbdlbcaoeffaa
open Go.RowKit Go.Mx

theorem few_any (v : Value) (l : List ByteArray) (w : World) (hv : Sl w 1 v l.length (ss l)) :
    Calls Try.prog 15 #[v] w (FewPost l w) := by
  obtain ⟨ao, cap, blk, off, rfl, h1, h2, _, hc⟩ := hv.txt
  clear hv
  have HC := Mx.hid hc
  clear hc
  go_enter Try.func15, Try.ntmps15
  go_wp2_with fail
  go_loop [3] (fun x => ∃ i : Nat, i ≤ l.length ∧ i ≤ 20 ∧ x = .int .i64 i) (fun x => l.length - (intOf x).toNat)
  case atStart => exact ⟨0, by omega, by omega, rfl⟩
  case round =>
    obtain ⟨i, hi, h4, rfl⟩ := hrel
    by_cases hlt : i < l.length ∧ i < 20
    · obtain ⟨hlt, h400⟩ := hlt
      obtain ⟨rfl, c1⟩ := HC.out i hlt
      have hii : (i : Int) < (l.length : Int) := by omega
      have hjj : (i : Int) < 20 := by omega
      generalize hz : l[i].size = z at *
      by_cases hz100 : 100 < z
      · have hzz : (100 : Int) < (z : Int) := by omega
        go_wp2_with fail
        go_ret
        exact ⟨⟨false, rfl, by simp⟩, rfl⟩
      · have hzz : (z : Int) ≤ 100 := by omega
        go_wp2_with fail
        go_round
        case rel => exact ⟨i + 1, by omega, by omega, by go_num⟩
        case measure => simp [intOf]; omega
    · by_cases hlt2 : i < l.length
      · have hii : decide ((i : Int) < (l.length : Int)) = true := decide_eq_true (by omega)
        have hjj : decide ((i : Int) < 20) = false := decide_eq_false (by omega)
        have hkk : decide ((l.length : Int) ≤ 20) = false := decide_eq_false (by omega)
        go_wp2_with fail
        go_ret
        exact ⟨⟨false, rfl, by simp⟩, rfl⟩
      · have hii : decide ((i : Int) < (l.length : Int)) = false := decide_eq_false (by omega)
        have hkk : decide ((l.length : Int) ≤ 20) = true := decide_eq_true (by omega)
        go_wp2_with fail
        go_ret
        exact ⟨⟨_, rfl, fun _ => by omega⟩, rfl⟩

theorem nfew_any (v : Value) (l : List Gd) (w : World) (hv : ND w v l) :
    Calls Try.prog 25 #[v] w (NFewPost l w) := by
  obtain ⟨ao, cap, blk, off, rfl, h1, h2, hc⟩ := hv.at
  have HC := Mx.hid hc
  have HP := Mx.hid (fun (i : Nat) (hi : i < l.length) => (hv.2 l[i] (List.getElem_mem hi)).txt)
  clear hc hv
  go_enter Try.func25, Try.ntmps25
  go_wp2_with fail
  go_loop [3, 4] (fun x y => ∃ i : Nat, i ≤ l.length ∧ i ≤ 40 ∧ x = .int .i64 i ∧ Hid (∀ q ∈ l.take i, q.2.2.1.length ≤ 8)) (fun x _ => l.length - (intOf x).toNat)
  case atStart => exact ⟨0, by omega, by omega, rfl, Mx.hid (by simp)⟩
  case round =>
    obtain ⟨i, hi, h4, rfl, HA⟩ := hrel
    by_cases hlt : i < l.length ∧ i < 40
    · obtain ⟨hlt, h400⟩ := hlt
      obtain ⟨rfl, c1, c2, c3⟩ := HC.out i hlt
      obtain ⟨ap, capp, blkp, offp, hpe, p1, p2, _, hpc⟩ := HP.out i hlt
      rw [hpe] at c2
      have HPC := Mx.hid hpc
      have HTK := Mx.hid (List.take_succ_eq_append_getElem hlt)
      clear hpc hpe
      have hii : (i : Int) < (l.length : Int) := by omega
      have hjj : (i : Int) < 40 := by omega
      generalize l[i] = q at *
      generalize hz : q.2.1.size = z at *
      generalize hps : q.2.2.1 = ps at *
      by_cases hz100 : 100 < z
      · have hzz : (100 : Int) < (z : Int) := by omega
        go_wp2_with fail
        go_ret
        exact ⟨⟨false, rfl, by simp⟩, rfl⟩
      · have hzz : (z : Int) ≤ 100 := by omega
        by_cases hp8 : 8 < ps.length
        · have hpp : (8 : Int) < (ps.length : Int) := by omega
          go_wp2_with fail
          go_ret
          exact ⟨⟨false, rfl, by simp⟩, rfl⟩
        · have hpp : (ps.length : Int) ≤ 8 := by omega
          have HA2 := Mx.hid (show ∀ q ∈ l.take (i + 1), q.2.2.1.length ≤ 8 by
            rw [HTK.out]
            intro r hr
            rcases List.mem_append.1 hr with hr | hr
            · exact HA.out r hr
            · rw [List.mem_singleton.1 hr, hps]; omega)
          clear HA
          go_wp2_with fail
          go_loop [4] (fun y => ∃ k : Nat, k ≤ ps.length ∧ y = .int .i64 k) (fun y => ps.length - (intOf y).toNat)
          case atStart => exact ⟨0, by omega, rfl⟩
          case round =>
            obtain ⟨k, hk, rfl⟩ := hrel
            by_cases hkl : k < ps.length
            · obtain ⟨rfl, c4⟩ := HPC.out k hkl
              have hkk : (k : Int) < (ps.length : Int) := by omega
              generalize hy : ps[k].size = y at *
              by_cases hy100 : 100 < y
              · have hyy : (100 : Int) < (y : Int) := by omega
                go_wp2_with fail
                go_ret
                exact ⟨⟨false, rfl, by simp⟩, rfl⟩
              · have hyy : (y : Int) ≤ 100 := by omega
                go_wp2_with fail
                go_round
                case rel => exact ⟨k + 1, by omega, by go_num⟩
                case measure => simp [intOf]; omega
            · have hkk : ¬ (k : Int) < (ps.length : Int) := by omega
              go_wp2_with fail
              go_round
              case rel => exact ⟨i + 1, by omega, by omega, by go_num, HA2⟩
              case measure => simp [intOf]; omega
    · by_cases hlt2 : i < l.length
      · have hii : decide ((i : Int) < (l.length : Int)) = true := decide_eq_true (by omega)
        have hjj : decide ((i : Int) < 40) = false := decide_eq_false (by omega)
        have hkk : decide ((l.length : Int) ≤ 40) = false := decide_eq_false (by omega)
        go_wp2_with fail
        go_ret
        exact ⟨⟨false, rfl, by simp⟩, rfl⟩
      · have hii : decide ((i : Int) < (l.length : Int)) = false := decide_eq_false (by omega)
        have hkk : decide ((l.length : Int) ≤ 40) = true := decide_eq_true (by omega)
        go_wp2_with fail
        go_ret
        exact ⟨⟨_, rfl, fun _ => ⟨by omega, fun q hq => HA.out q (by rw [List.take_of_length_le (by omega)]; exact hq)⟩⟩, rfl⟩

set_option maxRecDepth 100000 in
set_option maxHeartbeats 1000000 in
theorem made_g (v : Value) (l : List Gd) (w : World) (hv : ND w v l) (hok : ∀ q ∈ l, NdOk q) :
    Calls Try.prog 9 #[v] w (MadePost w) := by
  have HF := Mx.hid (fun w' R Q (hs : St w w' R Q) => nfew_any v l w' (hv.old hs))
  obtain ⟨ao, cap, blk, off, rfl, h1, h2, hc⟩ := hv.at
  have HC := Mx.hid hc
  have HP := Mx.hid hv.2
  have HK := Mx.hid hok
  clear hc hv hok
  go_enter Try.func9, Try.ntmps9
  go_wp2_with fail
  refine (new_g w).mono ?_
  rintro e w1 ⟨g, B, rfl, hB, hg, hr, hs⟩
  have HR := Mx.hid hr
  have HGB := Mx.hid (And.intro hg hB)
  have hF := HF.out _ _ _ hs
  clear hr hg hB HF
  go_wp2_with (((with_reducible show wpList _ _ _ _ _ _); refine wpl_want rfl ?_))
  refine hF.mono ?_
  rintro e w2 ⟨⟨b, rfl, hb⟩, rfl⟩
  cases b with
  | false =>
    go_wp2_with fail
    go_ret
    exact .inl ⟨rfl, hs⟩
  | true =>
  have HB := Mx.hid (hb rfl)
  clear hb hF
  go_wp2_with fail
  go_loopw [4] (fun x wr => ∃ (i : Nat) (G : List Gd), i ≤ l.length ∧ x = .int .i64 i ∧ Hid (G.length ≤ i) ∧ Hid (GG wr g B G) ∧ St w wr [] []) (fun x _ => l.length - (intOf x).toNat)
  case atStart => exact ⟨0, [], by omega, rfl, Mx.hid (by simp), Mx.hid ⟨HR.out, .nil, .nil⟩, hs⟩
  case round =>
    clear hs HR
    obtain ⟨i, G, hi, rfl, HGL, HGG, hs⟩ := hrel
    by_cases hlt : i < l.length
    · obtain ⟨rfl, c1, c2, c3⟩ := HC.out i hlt
      replace c1 := hs.drew.keep c1
      replace c2 := hs.drew.keep c2
      replace c3 := hs.drew.keep c3
      have hm := List.getElem_mem hlt
      have hsl := hs.drew.old (HP.out _ hm)
      obtain ⟨_, hz, _⟩ := HK.out _ hm
      have h8 := HB.out.2 _ hm
      have hii : (i : Int) < (l.length : Int) := by omega
      generalize l[i] = q at *
      obtain ⟨qv, qid, qps, qz⟩ := q
      simp only [] at c1 c2 c3 hsl hz h8
      obtain ⟨pa, pc, rfl, _⟩ := id hsl.form
      have hzb : -9223372036854775808 ≤ qz ∧ qz ≤ 9223372036854775807 := by
        simp [Lit.wf] at hz
        have e1 : IntKind.i64.min = -9223372036854775808 := by decide
        have e2 : IntKind.i64.max = 9223372036854775807 := by decide
        omega
      have HD := Mx.hid hs.drew
      have HA := Mx.hid (add_g g B G qid _ qps qz wr.drew (HGG.out.keep (St.refl wr).drew).r HGG.out.r.apart hsl (by omega) hzb.1 hzb.2 HGG.out.st)
      have HGW := Mx.hid (And.intro HGG.out.wf HGG.out.st)
      have HNR := Mx.hid (HGG.out.keep (St.refl wr).drew).r.mp.noRow
      clear hsl hz h8 hm hs HGG
      go_wp2_with fail
      (refine wp_region_S (16) (fun W' => W'.cell? ⟨blk, off + i * 3, none⟩ = some (.string qid) ∧ W'.cell? ⟨blk, off + i * 3 + 1, none⟩ = some (.slice pa qps.length pc) ∧ W'.cell? ⟨blk, off + i * 3 + 2, none⟩ = some (.int .i64 qz)) (by kernel_rfl) ?_ (fun hHeld => ?_); (focus ((try dsimp only); go_keep)))
      (refine wpAnyS_takeW (i := 0) (v := ?_) rfl (by kernel_rfl) (by kernel_rfl) (by kernel_rfl) (by kernel_rfl) (fun _ _ _ h => h) (Or.inl ⟨by rfl, ?_⟩) hHeld ?_; rotate_left 1; (focus (intro w' hSw; go_simp; (try with_reducible rfl))); (try simp only [Act.put, List.setIfInBounds_toArray, List.set_cons_zero, List.set_cons_succ]))
      (refine wpAnyS_takeW (i := 1) (v := ?_) rfl (by kernel_rfl) (by kernel_rfl) (by kernel_rfl) (by kernel_rfl) (fun _ _ _ h => h) (Or.inl ⟨by rfl, ?_⟩) hHeld ?_; rotate_left 1; (focus (intro w' hSw; go_simp; (try with_reducible rfl))); (try simp only [Act.put, List.setIfInBounds_toArray, List.set_cons_zero, List.set_cons_succ]))
      (refine wpAnyS_takeW (i := 2) (v := ?_) rfl (by kernel_rfl) (by kernel_rfl) (by kernel_rfl) (by kernel_rfl) (fun _ _ _ h => h) (Or.inl ⟨by rfl, ?_⟩) hHeld ?_; rotate_left 1; (focus (intro w' hSw; go_simp; (try with_reducible rfl))); (try simp only [Act.put, List.setIfInBounds_toArray, List.set_cons_zero, List.set_cons_succ]))
      (refine wpAnyS_takeW (i := 3) (v := ?_) rfl (by kernel_rfl) (by kernel_rfl) (by kernel_rfl) (by kernel_rfl) (fun _ _ _ h => h) (Or.inl ⟨by rfl, ?_⟩) hHeld ?_; rotate_left 1; (focus (intro w' hSw; go_simp; (try with_reducible rfl))); (try simp only [Act.put, List.setIfInBounds_toArray, List.set_cons_zero, List.set_cons_succ]))
      (refine wpAnyS_takeW (i := 4) (v := ?_) rfl (by kernel_rfl) (by kernel_rfl) (by kernel_rfl) (by kernel_rfl) (fun _ _ _ h => h) (Or.inl ⟨by rfl, ?_⟩) hHeld ?_; rotate_left 1; (focus (intro w' hSw; go_simp; (try with_reducible rfl))); (try simp only [Act.put, List.setIfInBounds_toArray, List.set_cons_zero, List.set_cons_succ]))
      (refine wpAnyS_takeL (i := 5) (v := ?_) rfl (by kernel_rfl) (by kernel_rfl) (by kernel_rfl) (by kernel_rfl) (by kernel_rfl) (by kernel_rfl) (fun _ _ _ h => h) (Or.inl ⟨by rfl, ?_⟩) hHeld ?_; rotate_left 1; (focus (intro w' hSw; (try dsimp only at hSw); go_simp; (try with_reducible rfl))); (try simp only [Act.put, List.setIfInBounds_toArray, List.set_cons_zero, List.set_cons_succ]))
      (refine wpAnyS_takeW (i := 6) (v := ?_) rfl (by kernel_rfl) (by kernel_rfl) (by kernel_rfl) (by kernel_rfl) (fun _ _ _ h => h) (Or.inl ⟨by rfl, ?_⟩) hHeld ?_; rotate_left 1; (focus (intro w' hSw; go_simp; (try with_reducible rfl))); (try simp only [Act.put, List.setIfInBounds_toArray, List.set_cons_zero, List.set_cons_succ]))
      (refine wpAnyS_takeW (i := 7) (v := ?_) rfl (by kernel_rfl) (by kernel_rfl) (by kernel_rfl) (by kernel_rfl) (fun _ _ _ h => h) (Or.inl ⟨by rfl, ?_⟩) hHeld ?_; rotate_left 1; (focus (intro w' hSw; go_simp; (try with_reducible rfl))); (try simp only [Act.put, List.setIfInBounds_toArray, List.set_cons_zero, List.set_cons_succ]))
      (refine wpAnyS_takeW (i := 8) (v := ?_) rfl (by kernel_rfl) (by kernel_rfl) (by kernel_rfl) (by kernel_rfl) (fun _ _ _ h => h) (Or.inl ⟨by rfl, ?_⟩) hHeld ?_; rotate_left 1; (focus (intro w' hSw; go_simp; (try with_reducible rfl))); (try simp only [Act.put, List.setIfInBounds_toArray, List.set_cons_zero, List.set_cons_succ]))
      (refine wpAnyS_takeW (i := 9) (v := ?_) rfl (by kernel_rfl) (by kernel_rfl) (by kernel_rfl) (by kernel_rfl) (fun _ _ _ h => h) (Or.inl ⟨by rfl, ?_⟩) hHeld ?_; rotate_left 1; (focus (intro w' hSw; go_simp; (try with_reducible rfl))); (try simp only [Act.put, List.setIfInBounds_toArray, List.set_cons_zero, List.set_cons_succ]))
      (refine wpAnyS_takeL (i := 10) (v := ?_) rfl (by kernel_rfl) (by kernel_rfl) (by kernel_rfl) (by kernel_rfl) (by kernel_rfl) (by kernel_rfl) (fun _ _ _ h => h) (Or.inl ⟨by rfl, ?_⟩) hHeld ?_; rotate_left 1; (focus (intro w' hSw; (try dsimp only at hSw); go_simp; (try with_reducible rfl))); (try simp only [Act.put, List.setIfInBounds_toArray, List.set_cons_zero, List.set_cons_succ]))
      (refine wpAnyS_takeW (i := 11) (v := ?_) rfl (by kernel_rfl) (by kernel_rfl) (by kernel_rfl) (by kernel_rfl) (fun _ _ _ h => h) (Or.inl ⟨by rfl, ?_⟩) hHeld ?_; rotate_left 1; (focus (intro w' hSw; go_simp; (try with_reducible rfl))); (try simp only [Act.put, List.setIfInBounds_toArray, List.set_cons_zero, List.set_cons_succ]))
      (refine wpAnyS_takeW (i := 12) (v := ?_) rfl (by kernel_rfl) (by kernel_rfl) (by kernel_rfl) (by kernel_rfl) (fun _ _ _ h => h) (Or.inl ⟨by rfl, ?_⟩) hHeld ?_; rotate_left 1; (focus (intro w' hSw; go_simp; (try with_reducible rfl))); (try simp only [Act.put, List.setIfInBounds_toArray, List.set_cons_zero, List.set_cons_succ]))
      (refine wpAnyS_takeW (i := 13) (v := ?_) rfl (by kernel_rfl) (by kernel_rfl) (by kernel_rfl) (by kernel_rfl) (fun _ _ _ h => h) (Or.inl ⟨by rfl, ?_⟩) hHeld ?_; rotate_left 1; (focus (intro w' hSw; go_simp; (try with_reducible rfl))); (try simp only [Act.put, List.setIfInBounds_toArray, List.set_cons_zero, List.set_cons_succ]))
      (refine wpAnyS_takeW (i := 14) (v := ?_) rfl (by kernel_rfl) (by kernel_rfl) (by kernel_rfl) (by kernel_rfl) (fun _ _ _ h => h) (Or.inl ⟨by rfl, ?_⟩) hHeld ?_; rotate_left 1; (focus (intro w' hSw; go_simp; (try with_reducible rfl))); (try simp only [Act.put, List.setIfInBounds_toArray, List.set_cons_zero, List.set_cons_succ]))
      (refine wpAnyS_takeL (i := 15) (v := ?_) rfl (by kernel_rfl) (by kernel_rfl) (by kernel_rfl) (by kernel_rfl) (by kernel_rfl) (by kernel_rfl) (fun _ _ _ h => h) (Or.inl ⟨by rfl, ?_⟩) hHeld ?_; rotate_left 1; (focus (intro w' hSw; (try dsimp only at hSw); go_simp; (try with_reducible rfl))); (try simp only [Act.put, List.setIfInBounds_toArray, List.set_cons_zero, List.set_cons_succ]))
      (refine wpAnyS_seq (by rfl) (by kernel_rfl) ?_; simp only [List.drop_succ_cons, List.drop_zero])
      go_wp2_with fail
      refine HA.out.mono ?_
      rintro e w3 ⟨rfl, hgr, hsz, hpost⟩
      have hs := HD.out
      have HL1 := HGL.out
      obtain ⟨hgg, hbb⟩ := HGB.out
      rcases hpost with ⟨_, hr, hs3⟩ | ⟨h0, vn, hr⟩
      · have HG3 := Mx.hid (GG.mk hr HGW.out.1 HGW.out.2)
        have HS3 := Mx.hid (hs.call0 hs3)
        clear hr hs3 hs hgr
        go_wp2_with fail
        refine ⟨⟨i + 1, G, by omega, by go_num, Mx.hid (by omega), HG3, HS3.out⟩, by simp [intOf]; omega⟩
      · have HG3 := Mx.hid (GG.mk hr (by rw [List.map_append]; exact HGW.out.1.add h0) (by rw [List.map_append]; exact HGW.out.2.add (by have := (addE_ok h0).2.2.2; show -1 ≤ qz; omega) hzb.2))
        have HS3 := Mx.hid (hs.other HNR.out hbb hgr)
        clear hr hs hgr h0
        go_wp2_with fail
        refine ⟨⟨i + 1, G ++ [(vn, qid, uniqL qps, qz)], by omega, by go_num, Mx.hid (by simp; omega), HG3, HS3.out⟩, by simp [intOf]; omega⟩
    · have hii : ¬ (i : Int) < (l.length : Int) := by omega
      go_wp2_with fail
      go_ret
      exact .inr ⟨g, B, G, rfl, HGG.out, Nat.le_trans HGL.out (Nat.le_trans hi HB.out.1), HGB.out.1, HGB.out.2, hs⟩
end Go.Proofs.Ytojbdlbcaoeffaa
