/- Walk of the walker's step over a stable line, where a chunk begins. -/
import Derived.Test.YtafmgclhgmhflaaDoorD3S0
namespace Go.Proofs.YtafmgclhgmhflaaDoor
open Go.RowKit Go.Mx

set_option maxRecDepth 100000 in
set_option maxHeartbeats 4000000 in
theorem stable_new (w0 w : World) (g : Nat) (vo va vb vout : Value) (o : List ByteArray) (i j k : Nat) (vs : List V3) (cs : List Ck)
    (hs : St w0 w [wkr g vo va vb i j k vout, ckr vout vs cs] (rdc vs cs)) (hvs : vs.length = cs.length)
    (ho : Sl w0 1 vo o.length (ss o)) (hi : i < o.length) (_lo : o.length ≤ 200) (lj : j ≤ 200) (lk : k ≤ 200) (lc : cs.length ≤ 1000) :
    Calls Tryd.prog 24 #[.pointer (some ⟨g, 0, none⟩), .bool false] w (StPost w0 g vo va vb (i + 1) (j + 1) (k + 1) cs [o[i]]) := by
  obtain ⟨run, hrun⟩ : ∃ run : List ByteArray, run = [] := ⟨_, rfl⟩
  rw [show [o[i]] = run ++ [o[i]] by rw [hrun]; rfl]
  have HRUN := Mx.hid hrun
  have lr : run.length ≤ 200 := by rw [hrun]; simp
  clear hrun
  obtain ⟨ao, cap, blk, off, rfl, h1, h2, _, hc⟩ := ho.txt
  obtain ⟨rfl, cl⟩ := hc i hi
  replace cl := hs.keep cl
  have HVS := Mx.hid hvs
  clear hc ho hvs
  have c0 : w.cell? ⟨g, 0, none⟩ = some (.slice (some ⟨blk, off, none⟩) o.length cap) := hs.rcell (List.mem_cons_self ..) rfl
  have c3 : w.cell? ⟨g, 3, none⟩ = some (.int .i64 (i : Int)) := hs.rcell (List.mem_cons_self ..) rfl
  have c4 : w.cell? ⟨g, 4, none⟩ = some (.int .i64 (j : Int)) := hs.rcell (List.mem_cons_self ..) rfl
  have c5 : w.cell? ⟨g, 5, none⟩ = some (.int .i64 (k : Int)) := hs.rcell (List.mem_cons_self ..) rfl
  have hii : (i : Int) < (o.length : Int) := by omega
  have hw1 : IntKind.i64.wrap ((i : Int) + 1) = (i : Int) + 1 := IntWalk.i64_in _ (by omega)
  have hw2 : IntKind.i64.wrap ((j : Int) + 1) = (j : Int) + 1 := IntWalk.i64_in _ (by omega)
  have hw3 : IntKind.i64.wrap ((k : Int) + 1) = (k : Int) + 1 := IntWalk.i64_in _ (by omega)
  generalize o[i] = line at *
  go_enter Tryd.func24, Tryd.ntmps24
  go_wp2_with fail
  go_quiet (fail)
  replace hs := hs.drewN nq
  go_wp2_with fail
  (refine wp_region_S (18) (fun W' => W'.cell? ⟨g, 3, none⟩ = some (.int .i64 (i : Int)) ∧ W'.cell? ⟨g, 4, none⟩ = some (.int .i64 (j : Int)) ∧ W'.cell? ⟨g, 5, none⟩ = some (.int .i64 (k : Int))) (by kernel_rfl) ?_ (fun hHeld => ?_); (focus ((try dsimp only); go_keep)))
  (refine wpAnyS_takeW (i := 0) (v := ?_) rfl (by kernel_rfl) (by kernel_rfl) (by kernel_rfl) (by kernel_rfl) (fun _ _ _ h => h) (Or.inl ⟨by rfl, ?_⟩) hHeld ?_; rotate_left 1; (focus (intro w' hSw; go_simp; (try with_reducible rfl))); (try simp only [Act.put, List.setIfInBounds_toArray, List.set_cons_zero, List.set_cons_succ]))
  (refine wpAnyS_takeW (i := 1) (v := ?_) rfl (by kernel_rfl) (by kernel_rfl) (by kernel_rfl) (by kernel_rfl) (fun _ _ _ h => h) (Or.inl ⟨by rfl, ?_⟩) hHeld ?_; rotate_left 1; (focus (intro w' hSw; go_simp; (try with_reducible rfl))); (try simp only [Act.put, List.setIfInBounds_toArray, List.set_cons_zero, List.set_cons_succ]))
  (refine wpAnyS_takeW (i := 2) (v := ?_) rfl (by kernel_rfl) (by kernel_rfl) (by kernel_rfl) (by kernel_rfl) (fun _ _ _ h => h) (Or.inl ⟨by rfl, ?_⟩) hHeld ?_; rotate_left 1; (focus (intro w' hSw; go_simp; (try with_reducible rfl))); (try simp only [Act.put, List.setIfInBounds_toArray, List.set_cons_zero, List.set_cons_succ]))
  (refine wpAnyS_takeW (i := 3) (v := ?_) rfl (by kernel_rfl) (by kernel_rfl) (by kernel_rfl) (by kernel_rfl) (fun _ _ _ h => h) (Or.inl ⟨by rfl, ?_⟩) hHeld ?_; rotate_left 1; (focus (intro w' hSw; go_simp; (try with_reducible rfl))); (try simp only [Act.put, List.setIfInBounds_toArray, List.set_cons_zero, List.set_cons_succ]))
  (refine wpAnyS_takeW (i := 4) (v := ?_) rfl (by kernel_rfl) (by kernel_rfl) (by kernel_rfl) (by kernel_rfl) (fun _ _ _ h => h) (Or.inl ⟨by rfl, ?_⟩) hHeld ?_; rotate_left 1; (focus (intro w' hSw; go_simp; (try with_reducible rfl))); (try simp only [Act.put, List.setIfInBounds_toArray, List.set_cons_zero, List.set_cons_succ]))
  (refine wpAnyS_takeW (i := 5) (v := ?_) rfl (by kernel_rfl) (by kernel_rfl) (by kernel_rfl) (by kernel_rfl) (fun _ _ _ h => h) (Or.inl ⟨by rfl, ?_⟩) hHeld ?_; rotate_left 1; (focus (intro w' hSw; go_simp; (try with_reducible rfl))); (try simp only [Act.put, List.setIfInBounds_toArray, List.set_cons_zero, List.set_cons_succ]))
  (refine wpAnyS_takeL (i := 6) (v := ?_) rfl (by kernel_rfl) (by kernel_rfl) (by kernel_rfl) (by kernel_rfl) (by kernel_rfl) (by kernel_rfl) (fun _ _ _ h => h) (Or.inl ⟨by rfl, ?_⟩) hHeld ?_; rotate_left 1; (focus (intro w' hSw; (try dsimp only at hSw); go_simp; (try with_reducible rfl))); (try simp only [Act.put, List.setIfInBounds_toArray, List.set_cons_zero, List.set_cons_succ]))
  (refine wpAnyS_takeW (i := 7) (v := ?_) rfl (by kernel_rfl) (by kernel_rfl) (by kernel_rfl) (by kernel_rfl) (fun _ _ _ h => h) (Or.inl ⟨by rfl, ?_⟩) hHeld ?_; rotate_left 1; (focus (intro w' hSw; go_simp; (try with_reducible rfl))); (try simp only [Act.put, List.setIfInBounds_toArray, List.set_cons_zero, List.set_cons_succ]))
  (refine wpAnyS_takeW (i := 8) (v := ?_) rfl (by kernel_rfl) (by kernel_rfl) (by kernel_rfl) (by kernel_rfl) (fun _ _ _ h => h) (Or.inl ⟨by rfl, ?_⟩) hHeld ?_; rotate_left 1; (focus (intro w' hSw; go_simp; (try with_reducible rfl))); (try simp only [Act.put, List.setIfInBounds_toArray, List.set_cons_zero, List.set_cons_succ]))
  (refine wpAnyS_takeW (i := 9) (v := ?_) rfl (by kernel_rfl) (by kernel_rfl) (by kernel_rfl) (by kernel_rfl) (fun _ _ _ h => h) (Or.inl ⟨by rfl, ?_⟩) hHeld ?_; rotate_left 1; (focus (intro w' hSw; go_simp; (try with_reducible rfl))); (try simp only [Act.put, List.setIfInBounds_toArray, List.set_cons_zero, List.set_cons_succ]))
  (refine wpAnyS_takeW (i := 10) (v := ?_) rfl (by kernel_rfl) (by kernel_rfl) (by kernel_rfl) (by kernel_rfl) (fun _ _ _ h => h) (Or.inl ⟨by rfl, ?_⟩) hHeld ?_; rotate_left 1; (focus (intro w' hSw; go_simp; (try with_reducible rfl))); (try simp only [Act.put, List.setIfInBounds_toArray, List.set_cons_zero, List.set_cons_succ]))
  (refine wpAnyS_takeL (i := 11) (v := ?_) rfl (by kernel_rfl) (by kernel_rfl) (by kernel_rfl) (by kernel_rfl) (by kernel_rfl) (by kernel_rfl) (fun _ _ _ h => h) (Or.inl ⟨by rfl, ?_⟩) hHeld ?_; rotate_left 1; (focus (intro w' hSw; (try dsimp only at hSw); go_simp; (try with_reducible rfl))); (try simp only [Act.put, List.setIfInBounds_toArray, List.set_cons_zero, List.set_cons_succ]))
  (refine wpAnyS_takeW (i := 12) (v := ?_) rfl (by kernel_rfl) (by kernel_rfl) (by kernel_rfl) (by kernel_rfl) (fun _ _ _ h => h) (Or.inl ⟨by rfl, ?_⟩) hHeld ?_; rotate_left 1; (focus (intro w' hSw; go_simp; (try with_reducible rfl))); (try simp only [Act.put, List.setIfInBounds_toArray, List.set_cons_zero, List.set_cons_succ]))
  (refine wpAnyS_takeW (i := 13) (v := ?_) rfl (by kernel_rfl) (by kernel_rfl) (by kernel_rfl) (by kernel_rfl) (fun _ _ _ h => h) (Or.inl ⟨by rfl, ?_⟩) hHeld ?_; rotate_left 1; (focus (intro w' hSw; go_simp; (try with_reducible rfl))); (try simp only [Act.put, List.setIfInBounds_toArray, List.set_cons_zero, List.set_cons_succ]))
  (refine wpAnyS_takeW (i := 14) (v := ?_) rfl (by kernel_rfl) (by kernel_rfl) (by kernel_rfl) (by kernel_rfl) (fun _ _ _ h => h) (Or.inl ⟨by rfl, ?_⟩) hHeld ?_; rotate_left 1; (focus (intro w' hSw; go_simp; (try with_reducible rfl))); (try simp only [Act.put, List.setIfInBounds_toArray, List.set_cons_zero, List.set_cons_succ]))
  (refine wpAnyS_takeW (i := 15) (v := ?_) rfl (by kernel_rfl) (by kernel_rfl) (by kernel_rfl) (by kernel_rfl) (fun _ _ _ h => h) (Or.inl ⟨by rfl, ?_⟩) hHeld ?_; rotate_left 1; (focus (intro w' hSw; go_simp; (try with_reducible rfl))); (try simp only [Act.put, List.setIfInBounds_toArray, List.set_cons_zero, List.set_cons_succ]))
  (refine wpAnyS_takeL (i := 16) (v := ?_) rfl (by kernel_rfl) (by kernel_rfl) (by kernel_rfl) (by kernel_rfl) (by kernel_rfl) (by kernel_rfl) (fun _ _ _ h => h) (Or.inl ⟨by rfl, ?_⟩) hHeld ?_; rotate_left 1; (focus (intro w' hSw; (try dsimp only at hSw); go_simp; (try with_reducible rfl))); (try simp only [Act.put, List.setIfInBounds_toArray, List.set_cons_zero, List.set_cons_succ]))
  (refine wpAnyS_takeW (i := 17) (v := ?_) rfl (by kernel_rfl) (by kernel_rfl) (by kernel_rfl) (by kernel_rfl) (fun _ _ _ h => h) (Or.inl ⟨by rfl, ?_⟩) hHeld ?_; rotate_left 1; (focus (intro w' hSw; go_simp; (try with_reducible rfl))); (try simp only [Act.put, List.setIfInBounds_toArray, List.set_cons_zero, List.set_cons_succ]))
  (refine wpAnyS_seq (by rfl) (by kernel_rfl) ?_; simp only [List.drop_succ_cons, List.drop_zero])
  clear cl c0 c3 c4 c5 hw1 hw2 hw3 hHeld
  go_wp2_with (first | ((with_reducible show wpList _ _ _ _ _ _); refine wpl_store1 rfl 3 _ _ rfl hs.drew (3) rfl (.int .i64 ((i : Int) + 1)) rfl rfl (by kernel_rfl) (by simp) rfl ?_; intro w1 hs1) | ((with_reducible show wpList _ _ _ _ _ _); refine wpl_store1 rfl 3 _ _ rfl hs1 (4) rfl (.int .i64 ((j : Int) + 1)) rfl rfl (by kernel_rfl) (by simp) rfl ?_; intro w2 hs2) | (((with_reducible show wpList _ _ _ _ _ _); refine wpl_store1 rfl 3 _ _ rfl hs2 (5) rfl (.int .i64 ((k : Int) + 1)) rfl rfl (by kernel_rfl) (by simp) rfl ?_; intro w3 hs3); have c6 : w3.cell? ⟨g, 6, none⟩ = some vout := hs3.rcell (List.mem_cons_self ..) rfl) | (at_builtin; refine wpl_app rfl _ _ 26 rfl Tryd.elChunk (hs3.swap.alloc _) rfl (by exact ((St.refl _).made #[.int .i64 1, .slice none 0 0, .slice none 0 0, .slice none 0 0] 42 4 1 rfl (by simp [maxLen])).sl0) (by intro u hu; simp at hu; rcases hu with rfl | rfl | rfl | rfl <;> rfl) (by omega) ?_; intro v9 w9 hs9 _; obtain ⟨go, gc, rfl, gb1, gb2, gb3, gb4⟩ := hs9.form0 (by simp)) | ((with_reducible show wpList _ _ _ _ _ _); refine wpl_store1 rfl 26 _ _ rfl hs9.swap (6) rfl (.slice (some ⟨go, 0, none⟩) (cs.length + 1) gc) rfl rfl (by kernel_rfl) (by simp) rfl ?_; intro w4 hs5))
  have hs4 : St w0 w4 [wkr g (.slice (some ⟨blk, off, none⟩) o.length cap) va vb (i + 1) (j + 1) (k + 1) (.slice (some ⟨go, 0, none⟩) (cs.length + 1) gc), ⟨.slice (some ⟨go, 0, none⟩) (cs.length + 1) gc, 42, 4, cs.length + 1, ckc vs cs ++ [.int .i64 1, .slice none 0 0, .slice none 0 0, .slice none 0 0]⟩] (rdc vs cs) := hs5
  obtain ⟨xO, hxO⟩ : ∃ x : Value, x = .slice none 0 0 := ⟨_, rfl⟩
  obtain ⟨xA, hxA⟩ : ∃ x : Value, x = .slice none 0 0 := ⟨_, rfl⟩
  obtain ⟨xB, hxB⟩ : ∃ x : Value, x = .slice none 0 0 := ⟨_, rfl⟩
  have hsT : St w0 w4 [wkr g (.slice (some ⟨blk, off, none⟩) o.length cap) va vb (i + 1) (j + 1) (k + 1) (.slice (some ⟨go, 0, none⟩) (cs.length + 1) gc), ⟨.slice (some ⟨go, 0, none⟩) (cs.length + 1) gc, 42, 4, cs.length + 1, ckc vs cs ++ [.int .i64 1, xO, xA, xB]⟩, txr xO run, txr xA run, txr xB run] (rdc vs cs) := by
    rw [hxO, hxA, hxB, HRUN.out]
    exact (((hs4.addNil 9 1).rot.addNil 9 1).rot.addNil 9 1).rot
  clear hs hs1 hs2 hs3 hs4 hs5 hs9 c6 hxO hxA hxB
  obtain ⟨w3, rfl⟩ : ∃ W : World, W = w4 := ⟨_, rfl⟩
  have HL3 := ck_last vs cs HVS.out (.int .i64 1) xO xA xB
  have d6 : w3.cell? ⟨g, 6, none⟩ = some (.slice (some ⟨go, 0, none⟩) (cs.length + 1) gc) := hsT.rcell (List.mem_cons_self ..) rfl
  have hwz : IntKind.i64.wrap ((cs.length : Int) + 1 - 1) = (cs.length : Int) := (IntWalk.i64_in _ (by omega)).trans (by omega)
  clear HL3
  go_quiet (fail)
  go_wp2_with fail
  have hc := (((hsT.drewN nq).drew).rot).rot
  clear hsT hwz d6
  (refine wp_region_S (24) (fun W' => W'.cell? ⟨go, cs.length * 4 + 1, none⟩ = some xO ∧ W'.cell? ⟨go, cs.length * 4 + 2, none⟩ = some xA ∧ W'.cell? ⟨go, cs.length * 4 + 3, none⟩ = some xB) (by kernel_rfl) ?_ (fun hHeld => ?_); (focus ((try dsimp only); exact ck_keep hc (by repeat (first | exact List.mem_cons_self .. | apply List.mem_cons_of_mem)) HVS.out)))
  (refine wpAnyS_takeW (i := 0) (v := ?_) rfl (by kernel_rfl) (by kernel_rfl) (by kernel_rfl) (by kernel_rfl) (fun _ _ _ h => h) (Or.inl ⟨by rfl, ?_⟩) hHeld ?_; rotate_left 1; (focus (intro w' hSw; go_simp; (try with_reducible rfl))); (try simp only [Act.put, List.setIfInBounds_toArray, List.set_cons_zero, List.set_cons_succ]))
  (refine wpAnyS_takeW (i := 1) (v := ?_) rfl (by kernel_rfl) (by kernel_rfl) (by kernel_rfl) (by kernel_rfl) (fun _ _ _ h => h) (Or.inl ⟨by rfl, ?_⟩) hHeld ?_; rotate_left 1; (focus (intro w' hSw; go_simp; (try with_reducible rfl))); (try simp only [Act.put, List.setIfInBounds_toArray, List.set_cons_zero, List.set_cons_succ]))
  (refine wpAnyS_takeW (i := 2) (v := ?_) rfl (by kernel_rfl) (by kernel_rfl) (by kernel_rfl) (by kernel_rfl) (fun _ _ _ h => h) (Or.inl ⟨by rfl, ?_⟩) hHeld ?_; rotate_left 1; (focus (intro w' hSw; go_simp; (try with_reducible rfl))); (try simp only [Act.put, List.setIfInBounds_toArray, List.set_cons_zero, List.set_cons_succ]))
  (refine wpAnyS_takeW (i := 3) (v := ?_) rfl (by kernel_rfl) (by kernel_rfl) (by kernel_rfl) (by kernel_rfl) (fun _ _ _ h => h) (Or.inl ⟨by rfl, ?_⟩) hHeld ?_; rotate_left 1; (focus (intro w' hSw; go_simp; (try with_reducible rfl))); (try simp only [Act.put, List.setIfInBounds_toArray, List.set_cons_zero, List.set_cons_succ]))
  (refine wpAnyS_takeW (i := 4) (v := ?_) rfl (by kernel_rfl) (by kernel_rfl) (by kernel_rfl) (by kernel_rfl) (fun _ _ _ h => h) (Or.inl ⟨by rfl, ?_⟩) hHeld ?_; rotate_left 1; (focus (intro w' hSw; go_simp; (try with_reducible rfl))); (try simp only [Act.put, List.setIfInBounds_toArray, List.set_cons_zero, List.set_cons_succ]))
  (refine wpAnyS_takeW (i := 5) (v := ?_) rfl (by kernel_rfl) (by kernel_rfl) (by kernel_rfl) (by kernel_rfl) (fun _ _ _ h => h) (Or.inl ⟨by rfl, ?_⟩) hHeld ?_; rotate_left 1; (focus (intro w' hSw; go_simp; (try with_reducible rfl))); (try simp only [Act.put, List.setIfInBounds_toArray, List.set_cons_zero, List.set_cons_succ]))
  (refine wpAnyS_takeL (i := 6) (v := ?_) rfl (by kernel_rfl) (by kernel_rfl) (by kernel_rfl) (by kernel_rfl) (by kernel_rfl) (by kernel_rfl) (fun _ _ _ h => h) (Or.inl ⟨by rfl, ?_⟩) hHeld ?_; rotate_left 1; (focus (intro w' hSw; (try dsimp only at hSw); go_simp; (try with_reducible rfl))); (try simp only [Act.put, List.setIfInBounds_toArray, List.set_cons_zero, List.set_cons_succ]))
  (refine wpAnyS_takeW (i := 7) (v := ?_) rfl (by kernel_rfl) (by kernel_rfl) (by kernel_rfl) (by kernel_rfl) (fun _ _ _ h => h) (Or.inl ⟨by rfl, ?_⟩) hHeld ?_; rotate_left 1; (focus (intro w' hSw; go_simp; (try with_reducible rfl))); (try simp only [Act.put, List.setIfInBounds_toArray, List.set_cons_zero, List.set_cons_succ]))
  (refine wpAnyS_takeW (i := 10) (v := ?_) rfl (by kernel_rfl) (by kernel_rfl) (by kernel_rfl) (by kernel_rfl) (fun _ _ _ h => h) (Or.inl ⟨by rfl, ?_⟩) hHeld ?_; rotate_left 1; (focus (intro w' hSw; go_simp; (try with_reducible rfl))); (try simp only [Act.put, List.setIfInBounds_toArray, List.set_cons_zero, List.set_cons_succ]))
  (refine wpAnyS_takeW (i := 11) (v := ?_) rfl (by kernel_rfl) (by kernel_rfl) (by kernel_rfl) (by kernel_rfl) (fun _ _ _ h => h) (Or.inl ⟨by rfl, ?_⟩) hHeld ?_; rotate_left 1; (focus (intro w' hSw; go_simp; (try with_reducible rfl))); (try simp only [Act.put, List.setIfInBounds_toArray, List.set_cons_zero, List.set_cons_succ]))
  (refine wpAnyS_takeW (i := 12) (v := ?_) rfl (by kernel_rfl) (by kernel_rfl) (by kernel_rfl) (by kernel_rfl) (fun _ _ _ h => h) (Or.inl ⟨by rfl, ?_⟩) hHeld ?_; rotate_left 1; (focus (intro w' hSw; go_simp; (try with_reducible rfl))); (try simp only [Act.put, List.setIfInBounds_toArray, List.set_cons_zero, List.set_cons_succ]))
  (refine wpAnyS_takeL (i := 13) (v := ?_) rfl (by kernel_rfl) (by kernel_rfl) (by kernel_rfl) (by kernel_rfl) (by kernel_rfl) (by kernel_rfl) (fun _ _ _ h => h) (Or.inl ⟨by rfl, ?_⟩) hHeld ?_; rotate_left 1; (focus (intro w' hSw; (try dsimp only at hSw); go_simp; (try with_reducible rfl))); (try simp only [Act.put, List.setIfInBounds_toArray, List.set_cons_zero, List.set_cons_succ]))
  (refine wpAnyS_takeW (i := 14) (v := ?_) rfl (by kernel_rfl) (by kernel_rfl) (by kernel_rfl) (by kernel_rfl) (fun _ _ _ h => h) (Or.inl ⟨by rfl, ?_⟩) hHeld ?_; rotate_left 1; (focus (intro w' hSw; go_simp; (try with_reducible rfl))); (try simp only [Act.put, List.setIfInBounds_toArray, List.set_cons_zero, List.set_cons_succ]))
  (refine wpAnyS_takeW (i := 17) (v := ?_) rfl (by kernel_rfl) (by kernel_rfl) (by kernel_rfl) (by kernel_rfl) (fun _ _ _ h => h) (Or.inl ⟨by rfl, ?_⟩) hHeld ?_; rotate_left 1; (focus (intro w' hSw; go_simp; (try with_reducible rfl))); (try simp only [Act.put, List.setIfInBounds_toArray, List.set_cons_zero, List.set_cons_succ]))
  (refine wpAnyS_takeW (i := 18) (v := ?_) rfl (by kernel_rfl) (by kernel_rfl) (by kernel_rfl) (by kernel_rfl) (fun _ _ _ h => h) (Or.inl ⟨by rfl, ?_⟩) hHeld ?_; rotate_left 1; (focus (intro w' hSw; go_simp; (try with_reducible rfl))); (try simp only [Act.put, List.setIfInBounds_toArray, List.set_cons_zero, List.set_cons_succ]))
  (refine wpAnyS_takeW (i := 19) (v := ?_) rfl (by kernel_rfl) (by kernel_rfl) (by kernel_rfl) (by kernel_rfl) (fun _ _ _ h => h) (Or.inl ⟨by rfl, ?_⟩) hHeld ?_; rotate_left 1; (focus (intro w' hSw; go_simp; (try with_reducible rfl))); (try simp only [Act.put, List.setIfInBounds_toArray, List.set_cons_zero, List.set_cons_succ]))
  (refine wpAnyS_takeL (i := 20) (v := ?_) rfl (by kernel_rfl) (by kernel_rfl) (by kernel_rfl) (by kernel_rfl) (by kernel_rfl) (by kernel_rfl) (fun _ _ _ h => h) (Or.inl ⟨by rfl, ?_⟩) hHeld ?_; rotate_left 1; (focus (intro w' hSw; (try dsimp only at hSw); go_simp; (try with_reducible rfl))); (try simp only [Act.put, List.setIfInBounds_toArray, List.set_cons_zero, List.set_cons_succ]))
  (refine wpAnyS_takeW (i := 21) (v := ?_) rfl (by kernel_rfl) (by kernel_rfl) (by kernel_rfl) (by kernel_rfl) (fun _ _ _ h => h) (Or.inl ⟨by rfl, ?_⟩) hHeld ?_; rotate_left 1; (focus (intro w' hSw; go_simp; (try with_reducible rfl))); (try simp only [Act.put, List.setIfInBounds_toArray, List.set_cons_zero, List.set_cons_succ]))
  generalize (w3.drewN nq).drew = W at hc hHeld ⊢
  refine wpAnyS_ready (rs := [8, 15, 22]) (by kernel_rfl) (by simp) ?_
  refine AllS.consL rfl (fun K hK => ?_) ?_
  · go_simp
    replace hc := hc.bq (.string line) 9
    generalize W.alloc (Obj.cells #[Value.string line] 9) = W1 at hc ⊢
    generalize W.heap.size = g1 at hc ⊢
    (refine hK.out _ _ ?_ (fun hHeld => ?_); (focus ((try dsimp only); exact ck_keep hc (by repeat (first | exact List.mem_cons_self .. | apply List.mem_cons_of_mem)) HVS.out)); clear hK K; (try simp only [Act.put, List.setIfInBounds_toArray, List.set_cons_zero, List.set_cons_succ]))
    obtain ⟨W, rfl⟩ : ∃ W : World, W = W1 := ⟨_, rfl⟩
    refine wpAnyS_ready (rs := [9, 15, 22]) (by kernel_rfl) (by simp) ?_
    refine AllS.consL rfl (fun K hK => ?_) ?_
    · refine step_app rfl _ _ 22 rfl Tryd.elStr (by exact hc) rfl (by first | exact hc.q0 | exact hc.q1 | exact hc.q2) (by intro u hu; simp at hu; subst hu; rfl) (by omega) ?_
      intro vO W1 hX _
      obtain ⟨nO, cO, rfl, _⟩ := hX.sl0
      replace hc := hX.rot
      clear hX
      (refine hK.out _ _ ?_ (fun hHeld => ?_); (focus ((try dsimp only); exact ck_keep hc (by repeat (first | exact List.mem_cons_self .. | apply List.mem_cons_of_mem)) HVS.out)); clear hK K; (try simp only [Act.put, List.setIfInBounds_toArray, List.set_cons_zero, List.set_cons_succ]))
      obtain ⟨W, rfl⟩ : ∃ W : World, W = W1 := ⟨_, rfl⟩
      refine wpAnyS_ready (rs := [15, 22]) (by kernel_rfl) (by simp) ?_
      refine AllS.consL rfl (fun K hK => ?_) ?_
      · go_simp
        replace hc := hc.bq (.string line) 9
        generalize W.alloc (Obj.cells #[Value.string line] 9) = W1 at hc ⊢
        generalize W.heap.size = g1 at hc ⊢
        (refine hK.out _ _ ?_ (fun hHeld => ?_); (focus ((try dsimp only); exact ck_keep hc (by repeat (first | exact List.mem_cons_self .. | apply List.mem_cons_of_mem)) HVS.out)); clear hK K; (try simp only [Act.put, List.setIfInBounds_toArray, List.set_cons_zero, List.set_cons_succ]))
        obtain ⟨W, rfl⟩ : ∃ W : World, W = W1 := ⟨_, rfl⟩
        refine wpAnyS_ready (rs := [16, 22]) (by kernel_rfl) (by simp) ?_
        refine AllS.consL rfl (fun K hK => ?_) ?_
        · refine step_app rfl _ _ 22 rfl Tryd.elStr (by exact hc) rfl (by first | exact hc.q0 | exact hc.q1 | exact hc.q2) (by intro u hu; simp at hu; subst hu; rfl) (by omega) ?_
          intro vA W1 hX _
          obtain ⟨nA, cA, rfl, _⟩ := hX.sl0
          replace hc := hX.rot
          clear hX
          (refine hK.out _ _ ?_ (fun hHeld => ?_); (focus ((try dsimp only); exact ck_keep hc (by repeat (first | exact List.mem_cons_self .. | apply List.mem_cons_of_mem)) HVS.out)); clear hK K; (try simp only [Act.put, List.setIfInBounds_toArray, List.set_cons_zero, List.set_cons_succ]))
          obtain ⟨W, rfl⟩ : ∃ W : World, W = W1 := ⟨_, rfl⟩
          refine wpAnyS_ready (rs := [22]) (by kernel_rfl) (by simp) ?_
          refine AllS.consL rfl (fun K hK => ?_) ?_
          · go_simp
            replace hc := hc.bq (.string line) 9
            generalize W.alloc (Obj.cells #[Value.string line] 9) = W1 at hc ⊢
            generalize W.heap.size = g1 at hc ⊢
            (refine hK.out _ _ ?_ (fun hHeld => ?_); (focus ((try dsimp only); exact ck_keep hc (by repeat (first | exact List.mem_cons_self .. | apply List.mem_cons_of_mem)) HVS.out)); clear hK K; (try simp only [Act.put, List.setIfInBounds_toArray, List.set_cons_zero, List.set_cons_succ]))
            obtain ⟨W, rfl⟩ : ∃ W : World, W = W1 := ⟨_, rfl⟩
            refine wpAnyS_ready (rs := [23]) (by kernel_rfl) (by simp) ?_
            refine AllS.consL rfl (fun K hK => ?_) ?_
            · refine step_app rfl _ _ 22 rfl Tryd.elStr (by exact hc) rfl (by first | exact hc.q0 | exact hc.q1 | exact hc.q2) (by intro u hu; simp at hu; subst hu; rfl) (by omega) ?_
              intro vB W1 hX _
              obtain ⟨nB, cB, rfl, _⟩ := hX.sl0
              replace hc := hX.rot
              clear hX
              (refine hK.out _ _ ?_ (fun hHeld => ?_); (focus ((try dsimp only); exact ck_keep hc (by repeat (first | exact List.mem_cons_self .. | apply List.mem_cons_of_mem)) HVS.out)); clear hK K; (try simp only [Act.put, List.setIfInBounds_toArray, List.set_cons_zero, List.set_cons_succ]))
              obtain ⟨W, rfl⟩ : ∃ W : World, W = W1 := ⟨_, rfl⟩
              (replace hc := hc.rot; refine wpAnyS_seq (by rfl) (by kernel_rfl) ?_; simp only [List.drop_succ_cons, List.drop_zero]; clear hHeld; go_wp2_with (first | ((with_reducible show wpList _ _ _ _ _ _); refine wpl_store1 rfl 22 _ _ rfl hc (cs.length * 4 + 1) rfl (.slice nO (run.length + 1) cO) rfl rfl (by kernel_rfl) (st3_len HVS.out _ _ _ _) rfl ?_; intro w5 hs5) | ((with_reducible show wpList _ _ _ _ _ _); refine wpl_store1 rfl 22 _ _ rfl hs5 (cs.length * 4 + 2) rfl (.slice nA (run.length + 1) cA) rfl rfl (by kernel_rfl) (by rw [st3_1 HVS.out]; exact st3_len2 HVS.out _ _ _ _) rfl ?_; intro w6 hs6) | ((with_reducible show wpList _ _ _ _ _ _); refine wpl_store1 rfl 22 _ _ rfl hs6 (cs.length * 4 + 3) rfl (.slice nB (run.length + 1) cB) rfl rfl (by kernel_rfl) (by rw [st3_1 HVS.out, st3_2 HVS.out]; exact st3_len3 HVS.out _ _ _ _) rfl ?_; intro w7 hs7)); go_end0; exact stable_leaf HVS.out rfl (by intro q hq; simp [hq]) hs7)
            exact AllS.nil
          exact AllS.nil
        refine AllS.consL rfl (fun K hK => ?_) ?_
        · go_simp
          replace hc := hc.bq (.string line) 9
          generalize W.alloc (Obj.cells #[Value.string line] 9) = W1 at hc ⊢
          generalize W.heap.size = g1 at hc ⊢
          (refine hK.out _ _ ?_ (fun hHeld => ?_); (focus ((try dsimp only); exact ck_keep hc (by repeat (first | exact List.mem_cons_self .. | apply List.mem_cons_of_mem)) HVS.out)); clear hK K; (try simp only [Act.put, List.setIfInBounds_toArray, List.set_cons_zero, List.set_cons_succ]))
          obtain ⟨W, rfl⟩ : ∃ W : World, W = W1 := ⟨_, rfl⟩
          refine wpAnyS_ready (rs := [16]) (by kernel_rfl) (by simp) ?_
          refine AllS.consL rfl (fun K hK => ?_) ?_
          · refine step_app rfl _ _ 22 rfl Tryd.elStr (by exact hc) rfl (by first | exact hc.q0 | exact hc.q1 | exact hc.q2) (by intro u hu; simp at hu; subst hu; rfl) (by omega) ?_
            intro vA W1 hX _
            obtain ⟨nA, cA, rfl, _⟩ := hX.sl0
            replace hc := hX.rot
            clear hX
            (refine hK.out _ _ ?_ (fun hHeld => ?_); (focus ((try dsimp only); exact ck_keep hc (by repeat (first | exact List.mem_cons_self .. | apply List.mem_cons_of_mem)) HVS.out)); clear hK K; (try simp only [Act.put, List.setIfInBounds_toArray, List.set_cons_zero, List.set_cons_succ]))
            obtain ⟨W, rfl⟩ : ∃ W : World, W = W1 := ⟨_, rfl⟩
            refine wpAnyS_ready (rs := [23]) (by kernel_rfl) (by simp) ?_
            refine AllS.consL rfl (fun K hK => ?_) ?_
            · refine step_app rfl _ _ 22 rfl Tryd.elStr (by exact hc) rfl (by first | exact hc.q0 | exact hc.q1 | exact hc.q2) (by intro u hu; simp at hu; subst hu; rfl) (by omega) ?_
              intro vB W1 hX _
              obtain ⟨nB, cB, rfl, _⟩ := hX.sl0
              replace hc := hX.rot
              clear hX
              (refine hK.out _ _ ?_ (fun hHeld => ?_); (focus ((try dsimp only); exact ck_keep hc (by repeat (first | exact List.mem_cons_self .. | apply List.mem_cons_of_mem)) HVS.out)); clear hK K; (try simp only [Act.put, List.setIfInBounds_toArray, List.set_cons_zero, List.set_cons_succ]))
              obtain ⟨W, rfl⟩ : ∃ W : World, W = W1 := ⟨_, rfl⟩
              (replace hc := hc.rot; refine wpAnyS_seq (by rfl) (by kernel_rfl) ?_; simp only [List.drop_succ_cons, List.drop_zero]; clear hHeld; go_wp2_with (first | ((with_reducible show wpList _ _ _ _ _ _); refine wpl_store1 rfl 22 _ _ rfl hc (cs.length * 4 + 1) rfl (.slice nO (run.length + 1) cO) rfl rfl (by kernel_rfl) (st3_len HVS.out _ _ _ _) rfl ?_; intro w5 hs5) | ((with_reducible show wpList _ _ _ _ _ _); refine wpl_store1 rfl 22 _ _ rfl hs5 (cs.length * 4 + 2) rfl (.slice nA (run.length + 1) cA) rfl rfl (by kernel_rfl) (by rw [st3_1 HVS.out]; exact st3_len2 HVS.out _ _ _ _) rfl ?_; intro w6 hs6) | ((with_reducible show wpList _ _ _ _ _ _); refine wpl_store1 rfl 22 _ _ rfl hs6 (cs.length * 4 + 3) rfl (.slice nB (run.length + 1) cB) rfl rfl (by kernel_rfl) (by rw [st3_1 HVS.out, st3_2 HVS.out]; exact st3_len3 HVS.out _ _ _ _) rfl ?_; intro w7 hs7)); go_end0; exact stable_leaf HVS.out rfl (by intro q hq; simp [hq]) hs7)
            exact AllS.nil
          exact AllS.nil
        exact AllS.nil
      refine AllS.consL rfl (fun K hK => ?_) ?_
      · go_simp
        replace hc := hc.bq (.string line) 9
        generalize W.alloc (Obj.cells #[Value.string line] 9) = W1 at hc ⊢
        generalize W.heap.size = g1 at hc ⊢
        (refine hK.out _ _ ?_ (fun hHeld => ?_); (focus ((try dsimp only); exact ck_keep hc (by repeat (first | exact List.mem_cons_self .. | apply List.mem_cons_of_mem)) HVS.out)); clear hK K; (try simp only [Act.put, List.setIfInBounds_toArray, List.set_cons_zero, List.set_cons_succ]))
        obtain ⟨W, rfl⟩ : ∃ W : World, W = W1 := ⟨_, rfl⟩
        refine wpAnyS_ready (rs := [15]) (by kernel_rfl) (by simp) ?_
        refine AllS.consL rfl (fun K hK => ?_) ?_
        · go_simp
          replace hc := hc.bq (.string line) 9
          generalize W.alloc (Obj.cells #[Value.string line] 9) = W1 at hc ⊢
          generalize W.heap.size = g1 at hc ⊢
          (refine hK.out _ _ ?_ (fun hHeld => ?_); (focus ((try dsimp only); exact ck_keep hc (by repeat (first | exact List.mem_cons_self .. | apply List.mem_cons_of_mem)) HVS.out)); clear hK K; (try simp only [Act.put, List.setIfInBounds_toArray, List.set_cons_zero, List.set_cons_succ]))
          obtain ⟨W, rfl⟩ : ∃ W : World, W = W1 := ⟨_, rfl⟩
          refine wpAnyS_ready (rs := [16]) (by kernel_rfl) (by simp) ?_
          refine AllS.consL rfl (fun K hK => ?_) ?_
          · refine step_app rfl _ _ 22 rfl Tryd.elStr (by exact hc) rfl (by first | exact hc.q0 | exact hc.q1 | exact hc.q2) (by intro u hu; simp at hu; subst hu; rfl) (by omega) ?_
            intro vA W1 hX _
            obtain ⟨nA, cA, rfl, _⟩ := hX.sl0
            replace hc := hX.rot
            clear hX
            (refine hK.out _ _ ?_ (fun hHeld => ?_); (focus ((try dsimp only); exact ck_keep hc (by repeat (first | exact List.mem_cons_self .. | apply List.mem_cons_of_mem)) HVS.out)); clear hK K; (try simp only [Act.put, List.setIfInBounds_toArray, List.set_cons_zero, List.set_cons_succ]))
            obtain ⟨W, rfl⟩ : ∃ W : World, W = W1 := ⟨_, rfl⟩
            refine wpAnyS_ready (rs := [23]) (by kernel_rfl) (by simp) ?_
            refine AllS.consL rfl (fun K hK => ?_) ?_
            · refine step_app rfl _ _ 22 rfl Tryd.elStr (by exact hc) rfl (by first | exact hc.q0 | exact hc.q1 | exact hc.q2) (by intro u hu; simp at hu; subst hu; rfl) (by omega) ?_
              intro vB W1 hX _
              obtain ⟨nB, cB, rfl, _⟩ := hX.sl0
              replace hc := hX.rot
              clear hX
              (refine hK.out _ _ ?_ (fun hHeld => ?_); (focus ((try dsimp only); exact ck_keep hc (by repeat (first | exact List.mem_cons_self .. | apply List.mem_cons_of_mem)) HVS.out)); clear hK K; (try simp only [Act.put, List.setIfInBounds_toArray, List.set_cons_zero, List.set_cons_succ]))
              obtain ⟨W, rfl⟩ : ∃ W : World, W = W1 := ⟨_, rfl⟩
              (replace hc := hc.rot; refine wpAnyS_seq (by rfl) (by kernel_rfl) ?_; simp only [List.drop_succ_cons, List.drop_zero]; clear hHeld; go_wp2_with (first | ((with_reducible show wpList _ _ _ _ _ _); refine wpl_store1 rfl 22 _ _ rfl hc (cs.length * 4 + 1) rfl (.slice nO (run.length + 1) cO) rfl rfl (by kernel_rfl) (st3_len HVS.out _ _ _ _) rfl ?_; intro w5 hs5) | ((with_reducible show wpList _ _ _ _ _ _); refine wpl_store1 rfl 22 _ _ rfl hs5 (cs.length * 4 + 2) rfl (.slice nA (run.length + 1) cA) rfl rfl (by kernel_rfl) (by rw [st3_1 HVS.out]; exact st3_len2 HVS.out _ _ _ _) rfl ?_; intro w6 hs6) | ((with_reducible show wpList _ _ _ _ _ _); refine wpl_store1 rfl 22 _ _ rfl hs6 (cs.length * 4 + 3) rfl (.slice nB (run.length + 1) cB) rfl rfl (by kernel_rfl) (by rw [st3_1 HVS.out, st3_2 HVS.out]; exact st3_len3 HVS.out _ _ _ _) rfl ?_; intro w7 hs7)); go_end0; exact stable_leaf HVS.out rfl (by intro q hq; simp [hq]) hs7)
            exact AllS.nil
          exact AllS.nil
        exact AllS.nil
      exact AllS.nil
    refine AllS.consL rfl (fun K hK => ?_) ?_
    · go_simp
      replace hc := hc.bq (.string line) 9
      generalize W.alloc (Obj.cells #[Value.string line] 9) = W1 at hc ⊢
      generalize W.heap.size = g1 at hc ⊢
      (refine hK.out _ _ ?_ (fun hHeld => ?_); (focus ((try dsimp only); exact ck_keep hc (by repeat (first | exact List.mem_cons_self .. | apply List.mem_cons_of_mem)) HVS.out)); clear hK K; (try simp only [Act.put, List.setIfInBounds_toArray, List.set_cons_zero, List.set_cons_succ]))
      obtain ⟨W, rfl⟩ : ∃ W : World, W = W1 := ⟨_, rfl⟩
      refine wpAnyS_ready (rs := [9, 22]) (by kernel_rfl) (by simp) ?_
      refine AllS.consL rfl (fun K hK => ?_) ?_
      · refine step_app rfl _ _ 22 rfl Tryd.elStr (by exact hc) rfl (by first | exact hc.q0 | exact hc.q1 | exact hc.q2) (by intro u hu; simp at hu; subst hu; rfl) (by omega) ?_
        intro vO W1 hX _
        obtain ⟨nO, cO, rfl, _⟩ := hX.sl0
        replace hc := hX.rot
        clear hX
        (refine hK.out _ _ ?_ (fun hHeld => ?_); (focus ((try dsimp only); exact ck_keep hc (by repeat (first | exact List.mem_cons_self .. | apply List.mem_cons_of_mem)) HVS.out)); clear hK K; (try simp only [Act.put, List.setIfInBounds_toArray, List.set_cons_zero, List.set_cons_succ]))
        obtain ⟨W, rfl⟩ : ∃ W : World, W = W1 := ⟨_, rfl⟩
        refine wpAnyS_ready (rs := [16, 22]) (by kernel_rfl) (by simp) ?_
        refine AllS.consL rfl (fun K hK => ?_) ?_
        · refine step_app rfl _ _ 22 rfl Tryd.elStr (by exact hc) rfl (by first | exact hc.q0 | exact hc.q1 | exact hc.q2) (by intro u hu; simp at hu; subst hu; rfl) (by omega) ?_
          intro vA W1 hX _
          obtain ⟨nA, cA, rfl, _⟩ := hX.sl0
          replace hc := hX.rot
          clear hX
          (refine hK.out _ _ ?_ (fun hHeld => ?_); (focus ((try dsimp only); exact ck_keep hc (by repeat (first | exact List.mem_cons_self .. | apply List.mem_cons_of_mem)) HVS.out)); clear hK K; (try simp only [Act.put, List.setIfInBounds_toArray, List.set_cons_zero, List.set_cons_succ]))
          obtain ⟨W, rfl⟩ : ∃ W : World, W = W1 := ⟨_, rfl⟩
          refine wpAnyS_ready (rs := [22]) (by kernel_rfl) (by simp) ?_
          refine AllS.consL rfl (fun K hK => ?_) ?_
          · go_simp
            replace hc := hc.bq (.string line) 9
            generalize W.alloc (Obj.cells #[Value.string line] 9) = W1 at hc ⊢
            generalize W.heap.size = g1 at hc ⊢
            (refine hK.out _ _ ?_ (fun hHeld => ?_); (focus ((try dsimp only); exact ck_keep hc (by repeat (first | exact List.mem_cons_self .. | apply List.mem_cons_of_mem)) HVS.out)); clear hK K; (try simp only [Act.put, List.setIfInBounds_toArray, List.set_cons_zero, List.set_cons_succ]))
            obtain ⟨W, rfl⟩ : ∃ W : World, W = W1 := ⟨_, rfl⟩
            refine wpAnyS_ready (rs := [23]) (by kernel_rfl) (by simp) ?_
            refine AllS.consL rfl (fun K hK => ?_) ?_
            · refine step_app rfl _ _ 22 rfl Tryd.elStr (by exact hc) rfl (by first | exact hc.q0 | exact hc.q1 | exact hc.q2) (by intro u hu; simp at hu; subst hu; rfl) (by omega) ?_
              intro vB W1 hX _
              obtain ⟨nB, cB, rfl, _⟩ := hX.sl0
              replace hc := hX.rot
              clear hX
              (refine hK.out _ _ ?_ (fun hHeld => ?_); (focus ((try dsimp only); exact ck_keep hc (by repeat (first | exact List.mem_cons_self .. | apply List.mem_cons_of_mem)) HVS.out)); clear hK K; (try simp only [Act.put, List.setIfInBounds_toArray, List.set_cons_zero, List.set_cons_succ]))
              obtain ⟨W, rfl⟩ : ∃ W : World, W = W1 := ⟨_, rfl⟩
              (replace hc := hc.rot; refine wpAnyS_seq (by rfl) (by kernel_rfl) ?_; simp only [List.drop_succ_cons, List.drop_zero]; clear hHeld; go_wp2_with (first | ((with_reducible show wpList _ _ _ _ _ _); refine wpl_store1 rfl 22 _ _ rfl hc (cs.length * 4 + 1) rfl (.slice nO (run.length + 1) cO) rfl rfl (by kernel_rfl) (st3_len HVS.out _ _ _ _) rfl ?_; intro w5 hs5) | ((with_reducible show wpList _ _ _ _ _ _); refine wpl_store1 rfl 22 _ _ rfl hs5 (cs.length * 4 + 2) rfl (.slice nA (run.length + 1) cA) rfl rfl (by kernel_rfl) (by rw [st3_1 HVS.out]; exact st3_len2 HVS.out _ _ _ _) rfl ?_; intro w6 hs6) | ((with_reducible show wpList _ _ _ _ _ _); refine wpl_store1 rfl 22 _ _ rfl hs6 (cs.length * 4 + 3) rfl (.slice nB (run.length + 1) cB) rfl rfl (by kernel_rfl) (by rw [st3_1 HVS.out, st3_2 HVS.out]; exact st3_len3 HVS.out _ _ _ _) rfl ?_; intro w7 hs7)); go_end0; exact stable_leaf HVS.out rfl (by intro q hq; simp [hq]) hs7)
            exact AllS.nil
          exact AllS.nil
        refine AllS.consL rfl (fun K hK => ?_) ?_
        · go_simp
          replace hc := hc.bq (.string line) 9
          generalize W.alloc (Obj.cells #[Value.string line] 9) = W1 at hc ⊢
          generalize W.heap.size = g1 at hc ⊢
          (refine hK.out _ _ ?_ (fun hHeld => ?_); (focus ((try dsimp only); exact ck_keep hc (by repeat (first | exact List.mem_cons_self .. | apply List.mem_cons_of_mem)) HVS.out)); clear hK K; (try simp only [Act.put, List.setIfInBounds_toArray, List.set_cons_zero, List.set_cons_succ]))
          obtain ⟨W, rfl⟩ : ∃ W : World, W = W1 := ⟨_, rfl⟩
          refine wpAnyS_ready (rs := [16]) (by kernel_rfl) (by simp) ?_
          refine AllS.consL rfl (fun K hK => ?_) ?_
          · refine step_app rfl _ _ 22 rfl Tryd.elStr (by exact hc) rfl (by first | exact hc.q0 | exact hc.q1 | exact hc.q2) (by intro u hu; simp at hu; subst hu; rfl) (by omega) ?_
            intro vA W1 hX _
            obtain ⟨nA, cA, rfl, _⟩ := hX.sl0
            replace hc := hX.rot
            clear hX
            (refine hK.out _ _ ?_ (fun hHeld => ?_); (focus ((try dsimp only); exact ck_keep hc (by repeat (first | exact List.mem_cons_self .. | apply List.mem_cons_of_mem)) HVS.out)); clear hK K; (try simp only [Act.put, List.setIfInBounds_toArray, List.set_cons_zero, List.set_cons_succ]))
            obtain ⟨W, rfl⟩ : ∃ W : World, W = W1 := ⟨_, rfl⟩
            refine wpAnyS_ready (rs := [23]) (by kernel_rfl) (by simp) ?_
            refine AllS.consL rfl (fun K hK => ?_) ?_
            · refine step_app rfl _ _ 22 rfl Tryd.elStr (by exact hc) rfl (by first | exact hc.q0 | exact hc.q1 | exact hc.q2) (by intro u hu; simp at hu; subst hu; rfl) (by omega) ?_
              intro vB W1 hX _
              obtain ⟨nB, cB, rfl, _⟩ := hX.sl0
              replace hc := hX.rot
              clear hX
              (refine hK.out _ _ ?_ (fun hHeld => ?_); (focus ((try dsimp only); exact ck_keep hc (by repeat (first | exact List.mem_cons_self .. | apply List.mem_cons_of_mem)) HVS.out)); clear hK K; (try simp only [Act.put, List.setIfInBounds_toArray, List.set_cons_zero, List.set_cons_succ]))
              obtain ⟨W, rfl⟩ : ∃ W : World, W = W1 := ⟨_, rfl⟩
              (replace hc := hc.rot; refine wpAnyS_seq (by rfl) (by kernel_rfl) ?_; simp only [List.drop_succ_cons, List.drop_zero]; clear hHeld; go_wp2_with (first | ((with_reducible show wpList _ _ _ _ _ _); refine wpl_store1 rfl 22 _ _ rfl hc (cs.length * 4 + 1) rfl (.slice nO (run.length + 1) cO) rfl rfl (by kernel_rfl) (st3_len HVS.out _ _ _ _) rfl ?_; intro w5 hs5) | ((with_reducible show wpList _ _ _ _ _ _); refine wpl_store1 rfl 22 _ _ rfl hs5 (cs.length * 4 + 2) rfl (.slice nA (run.length + 1) cA) rfl rfl (by kernel_rfl) (by rw [st3_1 HVS.out]; exact st3_len2 HVS.out _ _ _ _) rfl ?_; intro w6 hs6) | ((with_reducible show wpList _ _ _ _ _ _); refine wpl_store1 rfl 22 _ _ rfl hs6 (cs.length * 4 + 3) rfl (.slice nB (run.length + 1) cB) rfl rfl (by kernel_rfl) (by rw [st3_1 HVS.out, st3_2 HVS.out]; exact st3_len3 HVS.out _ _ _ _) rfl ?_; intro w7 hs7)); go_end0; exact stable_leaf HVS.out rfl (by intro q hq; simp [hq]) hs7)
            exact AllS.nil
          exact AllS.nil
        exact AllS.nil
      refine AllS.consL rfl (fun K hK => ?_) ?_
      · go_simp
        replace hc := hc.bq (.string line) 9
        generalize W.alloc (Obj.cells #[Value.string line] 9) = W1 at hc ⊢
        generalize W.heap.size = g1 at hc ⊢
        (refine hK.out _ _ ?_ (fun hHeld => ?_); (focus ((try dsimp only); exact ck_keep hc (by repeat (first | exact List.mem_cons_self .. | apply List.mem_cons_of_mem)) HVS.out)); clear hK K; (try simp only [Act.put, List.setIfInBounds_toArray, List.set_cons_zero, List.set_cons_succ]))
        obtain ⟨W, rfl⟩ : ∃ W : World, W = W1 := ⟨_, rfl⟩
        refine wpAnyS_ready (rs := [9]) (by kernel_rfl) (by simp) ?_
        refine AllS.consL rfl (fun K hK => ?_) ?_
        · refine step_app rfl _ _ 22 rfl Tryd.elStr (by exact hc) rfl (by first | exact hc.q0 | exact hc.q1 | exact hc.q2) (by intro u hu; simp at hu; subst hu; rfl) (by omega) ?_
          intro vO W1 hX _
          obtain ⟨nO, cO, rfl, _⟩ := hX.sl0
          replace hc := hX.rot
          clear hX
          (refine hK.out _ _ ?_ (fun hHeld => ?_); (focus ((try dsimp only); exact ck_keep hc (by repeat (first | exact List.mem_cons_self .. | apply List.mem_cons_of_mem)) HVS.out)); clear hK K; (try simp only [Act.put, List.setIfInBounds_toArray, List.set_cons_zero, List.set_cons_succ]))
          obtain ⟨W, rfl⟩ : ∃ W : World, W = W1 := ⟨_, rfl⟩
          refine wpAnyS_ready (rs := [16]) (by kernel_rfl) (by simp) ?_
          refine AllS.consL rfl (fun K hK => ?_) ?_
          · refine step_app rfl _ _ 22 rfl Tryd.elStr (by exact hc) rfl (by first | exact hc.q0 | exact hc.q1 | exact hc.q2) (by intro u hu; simp at hu; subst hu; rfl) (by omega) ?_
            intro vA W1 hX _
            obtain ⟨nA, cA, rfl, _⟩ := hX.sl0
            replace hc := hX.rot
            clear hX
            (refine hK.out _ _ ?_ (fun hHeld => ?_); (focus ((try dsimp only); exact ck_keep hc (by repeat (first | exact List.mem_cons_self .. | apply List.mem_cons_of_mem)) HVS.out)); clear hK K; (try simp only [Act.put, List.setIfInBounds_toArray, List.set_cons_zero, List.set_cons_succ]))
            obtain ⟨W, rfl⟩ : ∃ W : World, W = W1 := ⟨_, rfl⟩
            refine wpAnyS_ready (rs := [23]) (by kernel_rfl) (by simp) ?_
            refine AllS.consL rfl (fun K hK => ?_) ?_
            · refine step_app rfl _ _ 22 rfl Tryd.elStr (by exact hc) rfl (by first | exact hc.q0 | exact hc.q1 | exact hc.q2) (by intro u hu; simp at hu; subst hu; rfl) (by omega) ?_
              intro vB W1 hX _
              obtain ⟨nB, cB, rfl, _⟩ := hX.sl0
              replace hc := hX.rot
              clear hX
              (refine hK.out _ _ ?_ (fun hHeld => ?_); (focus ((try dsimp only); exact ck_keep hc (by repeat (first | exact List.mem_cons_self .. | apply List.mem_cons_of_mem)) HVS.out)); clear hK K; (try simp only [Act.put, List.setIfInBounds_toArray, List.set_cons_zero, List.set_cons_succ]))
              obtain ⟨W, rfl⟩ : ∃ W : World, W = W1 := ⟨_, rfl⟩
              (replace hc := hc.rot; refine wpAnyS_seq (by rfl) (by kernel_rfl) ?_; simp only [List.drop_succ_cons, List.drop_zero]; clear hHeld; go_wp2_with (first | ((with_reducible show wpList _ _ _ _ _ _); refine wpl_store1 rfl 22 _ _ rfl hc (cs.length * 4 + 1) rfl (.slice nO (run.length + 1) cO) rfl rfl (by kernel_rfl) (st3_len HVS.out _ _ _ _) rfl ?_; intro w5 hs5) | ((with_reducible show wpList _ _ _ _ _ _); refine wpl_store1 rfl 22 _ _ rfl hs5 (cs.length * 4 + 2) rfl (.slice nA (run.length + 1) cA) rfl rfl (by kernel_rfl) (by rw [st3_1 HVS.out]; exact st3_len2 HVS.out _ _ _ _) rfl ?_; intro w6 hs6) | ((with_reducible show wpList _ _ _ _ _ _); refine wpl_store1 rfl 22 _ _ rfl hs6 (cs.length * 4 + 3) rfl (.slice nB (run.length + 1) cB) rfl rfl (by kernel_rfl) (by rw [st3_1 HVS.out, st3_2 HVS.out]; exact st3_len3 HVS.out _ _ _ _) rfl ?_; intro w7 hs7)); go_end0; exact stable_leaf HVS.out rfl (by intro q hq; simp [hq]) hs7)
            exact AllS.nil
          exact AllS.nil
        exact AllS.nil
      exact AllS.nil
    refine AllS.consL rfl (fun K hK => ?_) ?_
    · go_simp
      replace hc := hc.bq (.string line) 9
      generalize W.alloc (Obj.cells #[Value.string line] 9) = W1 at hc ⊢
      generalize W.heap.size = g1 at hc ⊢
      (refine hK.out _ _ ?_ (fun hHeld => ?_); (focus ((try dsimp only); exact ck_keep hc (by repeat (first | exact List.mem_cons_self .. | apply List.mem_cons_of_mem)) HVS.out)); clear hK K; (try simp only [Act.put, List.setIfInBounds_toArray, List.set_cons_zero, List.set_cons_succ]))
      obtain ⟨W, rfl⟩ : ∃ W : World, W = W1 := ⟨_, rfl⟩
      refine wpAnyS_ready (rs := [9, 15]) (by kernel_rfl) (by simp) ?_
      refine AllS.consL rfl (fun K hK => ?_) ?_
      · refine step_app rfl _ _ 22 rfl Tryd.elStr (by exact hc) rfl (by first | exact hc.q0 | exact hc.q1 | exact hc.q2) (by intro u hu; simp at hu; subst hu; rfl) (by omega) ?_
        intro vO W1 hX _
        obtain ⟨nO, cO, rfl, _⟩ := hX.sl0
        replace hc := hX.rot
        clear hX
        (refine hK.out _ _ ?_ (fun hHeld => ?_); (focus ((try dsimp only); exact ck_keep hc (by repeat (first | exact List.mem_cons_self .. | apply List.mem_cons_of_mem)) HVS.out)); clear hK K; (try simp only [Act.put, List.setIfInBounds_toArray, List.set_cons_zero, List.set_cons_succ]))
        obtain ⟨W, rfl⟩ : ∃ W : World, W = W1 := ⟨_, rfl⟩
        refine wpAnyS_ready (rs := [15]) (by kernel_rfl) (by simp) ?_
        refine AllS.consL rfl (fun K hK => ?_) ?_
        · go_simp
          replace hc := hc.bq (.string line) 9
          generalize W.alloc (Obj.cells #[Value.string line] 9) = W1 at hc ⊢
          generalize W.heap.size = g1 at hc ⊢
          (refine hK.out _ _ ?_ (fun hHeld => ?_); (focus ((try dsimp only); exact ck_keep hc (by repeat (first | exact List.mem_cons_self .. | apply List.mem_cons_of_mem)) HVS.out)); clear hK K; (try simp only [Act.put, List.setIfInBounds_toArray, List.set_cons_zero, List.set_cons_succ]))
          obtain ⟨W, rfl⟩ : ∃ W : World, W = W1 := ⟨_, rfl⟩
          refine wpAnyS_ready (rs := [16]) (by kernel_rfl) (by simp) ?_
          refine AllS.consL rfl (fun K hK => ?_) ?_
          · refine step_app rfl _ _ 22 rfl Tryd.elStr (by exact hc) rfl (by first | exact hc.q0 | exact hc.q1 | exact hc.q2) (by intro u hu; simp at hu; subst hu; rfl) (by omega) ?_
            intro vA W1 hX _
            obtain ⟨nA, cA, rfl, _⟩ := hX.sl0
            replace hc := hX.rot
            clear hX
            (refine hK.out _ _ ?_ (fun hHeld => ?_); (focus ((try dsimp only); exact ck_keep hc (by repeat (first | exact List.mem_cons_self .. | apply List.mem_cons_of_mem)) HVS.out)); clear hK K; (try simp only [Act.put, List.setIfInBounds_toArray, List.set_cons_zero, List.set_cons_succ]))
            obtain ⟨W, rfl⟩ : ∃ W : World, W = W1 := ⟨_, rfl⟩
            refine wpAnyS_ready (rs := [23]) (by kernel_rfl) (by simp) ?_
            refine AllS.consL rfl (fun K hK => ?_) ?_
            · refine step_app rfl _ _ 22 rfl Tryd.elStr (by exact hc) rfl (by first | exact hc.q0 | exact hc.q1 | exact hc.q2) (by intro u hu; simp at hu; subst hu; rfl) (by omega) ?_
              intro vB W1 hX _
              obtain ⟨nB, cB, rfl, _⟩ := hX.sl0
              replace hc := hX.rot
              clear hX
              (refine hK.out _ _ ?_ (fun hHeld => ?_); (focus ((try dsimp only); exact ck_keep hc (by repeat (first | exact List.mem_cons_self .. | apply List.mem_cons_of_mem)) HVS.out)); clear hK K; (try simp only [Act.put, List.setIfInBounds_toArray, List.set_cons_zero, List.set_cons_succ]))
              obtain ⟨W, rfl⟩ : ∃ W : World, W = W1 := ⟨_, rfl⟩
              (replace hc := hc.rot; refine wpAnyS_seq (by rfl) (by kernel_rfl) ?_; simp only [List.drop_succ_cons, List.drop_zero]; clear hHeld; go_wp2_with (first | ((with_reducible show wpList _ _ _ _ _ _); refine wpl_store1 rfl 22 _ _ rfl hc (cs.length * 4 + 1) rfl (.slice nO (run.length + 1) cO) rfl rfl (by kernel_rfl) (st3_len HVS.out _ _ _ _) rfl ?_; intro w5 hs5) | ((with_reducible show wpList _ _ _ _ _ _); refine wpl_store1 rfl 22 _ _ rfl hs5 (cs.length * 4 + 2) rfl (.slice nA (run.length + 1) cA) rfl rfl (by kernel_rfl) (by rw [st3_1 HVS.out]; exact st3_len2 HVS.out _ _ _ _) rfl ?_; intro w6 hs6) | ((with_reducible show wpList _ _ _ _ _ _); refine wpl_store1 rfl 22 _ _ rfl hs6 (cs.length * 4 + 3) rfl (.slice nB (run.length + 1) cB) rfl rfl (by kernel_rfl) (by rw [st3_1 HVS.out, st3_2 HVS.out]; exact st3_len3 HVS.out _ _ _ _) rfl ?_; intro w7 hs7)); go_end0; exact stable_leaf HVS.out rfl (by intro q hq; simp [hq]) hs7)
            exact AllS.nil
          exact AllS.nil
        exact AllS.nil
      refine AllS.consL rfl (fun K hK => ?_) ?_
      · go_simp
        replace hc := hc.bq (.string line) 9
        generalize W.alloc (Obj.cells #[Value.string line] 9) = W1 at hc ⊢
        generalize W.heap.size = g1 at hc ⊢
        (refine hK.out _ _ ?_ (fun hHeld => ?_); (focus ((try dsimp only); exact ck_keep hc (by repeat (first | exact List.mem_cons_self .. | apply List.mem_cons_of_mem)) HVS.out)); clear hK K; (try simp only [Act.put, List.setIfInBounds_toArray, List.set_cons_zero, List.set_cons_succ]))
        obtain ⟨W, rfl⟩ : ∃ W : World, W = W1 := ⟨_, rfl⟩
        refine wpAnyS_ready (rs := [9]) (by kernel_rfl) (by simp) ?_
        refine AllS.consL rfl (fun K hK => ?_) ?_
        · refine step_app rfl _ _ 22 rfl Tryd.elStr (by exact hc) rfl (by first | exact hc.q0 | exact hc.q1 | exact hc.q2) (by intro u hu; simp at hu; subst hu; rfl) (by omega) ?_
          intro vO W1 hX _
          obtain ⟨nO, cO, rfl, _⟩ := hX.sl0
          replace hc := hX.rot
          clear hX
          (refine hK.out _ _ ?_ (fun hHeld => ?_); (focus ((try dsimp only); exact ck_keep hc (by repeat (first | exact List.mem_cons_self .. | apply List.mem_cons_of_mem)) HVS.out)); clear hK K; (try simp only [Act.put, List.setIfInBounds_toArray, List.set_cons_zero, List.set_cons_succ]))
          obtain ⟨W, rfl⟩ : ∃ W : World, W = W1 := ⟨_, rfl⟩
          refine wpAnyS_ready (rs := [16]) (by kernel_rfl) (by simp) ?_
          refine AllS.consL rfl (fun K hK => ?_) ?_
          · refine step_app rfl _ _ 22 rfl Tryd.elStr (by exact hc) rfl (by first | exact hc.q0 | exact hc.q1 | exact hc.q2) (by intro u hu; simp at hu; subst hu; rfl) (by omega) ?_
            intro vA W1 hX _
            obtain ⟨nA, cA, rfl, _⟩ := hX.sl0
            replace hc := hX.rot
            clear hX
            (refine hK.out _ _ ?_ (fun hHeld => ?_); (focus ((try dsimp only); exact ck_keep hc (by repeat (first | exact List.mem_cons_self .. | apply List.mem_cons_of_mem)) HVS.out)); clear hK K; (try simp only [Act.put, List.setIfInBounds_toArray, List.set_cons_zero, List.set_cons_succ]))
            obtain ⟨W, rfl⟩ : ∃ W : World, W = W1 := ⟨_, rfl⟩
            refine wpAnyS_ready (rs := [23]) (by kernel_rfl) (by simp) ?_
            refine AllS.consL rfl (fun K hK => ?_) ?_
            · refine step_app rfl _ _ 22 rfl Tryd.elStr (by exact hc) rfl (by first | exact hc.q0 | exact hc.q1 | exact hc.q2) (by intro u hu; simp at hu; subst hu; rfl) (by omega) ?_
              intro vB W1 hX _
              obtain ⟨nB, cB, rfl, _⟩ := hX.sl0
              replace hc := hX.rot
              clear hX
              (refine hK.out _ _ ?_ (fun hHeld => ?_); (focus ((try dsimp only); exact ck_keep hc (by repeat (first | exact List.mem_cons_self .. | apply List.mem_cons_of_mem)) HVS.out)); clear hK K; (try simp only [Act.put, List.setIfInBounds_toArray, List.set_cons_zero, List.set_cons_succ]))
              obtain ⟨W, rfl⟩ : ∃ W : World, W = W1 := ⟨_, rfl⟩
              (replace hc := hc.rot; refine wpAnyS_seq (by rfl) (by kernel_rfl) ?_; simp only [List.drop_succ_cons, List.drop_zero]; clear hHeld; go_wp2_with (first | ((with_reducible show wpList _ _ _ _ _ _); refine wpl_store1 rfl 22 _ _ rfl hc (cs.length * 4 + 1) rfl (.slice nO (run.length + 1) cO) rfl rfl (by kernel_rfl) (st3_len HVS.out _ _ _ _) rfl ?_; intro w5 hs5) | ((with_reducible show wpList _ _ _ _ _ _); refine wpl_store1 rfl 22 _ _ rfl hs5 (cs.length * 4 + 2) rfl (.slice nA (run.length + 1) cA) rfl rfl (by kernel_rfl) (by rw [st3_1 HVS.out]; exact st3_len2 HVS.out _ _ _ _) rfl ?_; intro w6 hs6) | ((with_reducible show wpList _ _ _ _ _ _); refine wpl_store1 rfl 22 _ _ rfl hs6 (cs.length * 4 + 3) rfl (.slice nB (run.length + 1) cB) rfl rfl (by kernel_rfl) (by rw [st3_1 HVS.out, st3_2 HVS.out]; exact st3_len3 HVS.out _ _ _ _) rfl ?_; intro w7 hs7)); go_end0; exact stable_leaf HVS.out rfl (by intro q hq; simp [hq]) hs7)
            exact AllS.nil
          exact AllS.nil
        exact AllS.nil
      exact AllS.nil
    exact AllS.nil
  refine AllS.consL rfl (fun K hK => ?_) ?_
  · go_simp
    replace hc := hc.bq (.string line) 9
    generalize W.alloc (Obj.cells #[Value.string line] 9) = W1 at hc ⊢
    generalize W.heap.size = g1 at hc ⊢
    (refine hK.out _ _ ?_ (fun hHeld => ?_); (focus ((try dsimp only); exact ck_keep hc (by repeat (first | exact List.mem_cons_self .. | apply List.mem_cons_of_mem)) HVS.out)); clear hK K; (try simp only [Act.put, List.setIfInBounds_toArray, List.set_cons_zero, List.set_cons_succ]))
    obtain ⟨W, rfl⟩ : ∃ W : World, W = W1 := ⟨_, rfl⟩
    refine wpAnyS_ready (rs := [8, 22]) (by kernel_rfl) (by simp) ?_
    refine AllS.consL rfl (fun K hK => ?_) ?_
    · go_simp
      replace hc := hc.bq (.string line) 9
      generalize W.alloc (Obj.cells #[Value.string line] 9) = W1 at hc ⊢
      generalize W.heap.size = g1 at hc ⊢
      (refine hK.out _ _ ?_ (fun hHeld => ?_); (focus ((try dsimp only); exact ck_keep hc (by repeat (first | exact List.mem_cons_self .. | apply List.mem_cons_of_mem)) HVS.out)); clear hK K; (try simp only [Act.put, List.setIfInBounds_toArray, List.set_cons_zero, List.set_cons_succ]))
      obtain ⟨W, rfl⟩ : ∃ W : World, W = W1 := ⟨_, rfl⟩
      refine wpAnyS_ready (rs := [9, 22]) (by kernel_rfl) (by simp) ?_
      refine AllS.consL rfl (fun K hK => ?_) ?_
      · refine step_app rfl _ _ 22 rfl Tryd.elStr (by exact hc) rfl (by first | exact hc.q0 | exact hc.q1 | exact hc.q2) (by intro u hu; simp at hu; subst hu; rfl) (by omega) ?_
        intro vO W1 hX _
        obtain ⟨nO, cO, rfl, _⟩ := hX.sl0
        replace hc := hX.rot
        clear hX
        (refine hK.out _ _ ?_ (fun hHeld => ?_); (focus ((try dsimp only); exact ck_keep hc (by repeat (first | exact List.mem_cons_self .. | apply List.mem_cons_of_mem)) HVS.out)); clear hK K; (try simp only [Act.put, List.setIfInBounds_toArray, List.set_cons_zero, List.set_cons_succ]))
        obtain ⟨W, rfl⟩ : ∃ W : World, W = W1 := ⟨_, rfl⟩
        refine wpAnyS_ready (rs := [16, 22]) (by kernel_rfl) (by simp) ?_
        refine AllS.consL rfl (fun K hK => ?_) ?_
        · refine step_app rfl _ _ 22 rfl Tryd.elStr (by exact hc) rfl (by first | exact hc.q0 | exact hc.q1 | exact hc.q2) (by intro u hu; simp at hu; subst hu; rfl) (by omega) ?_
          intro vA W1 hX _
          obtain ⟨nA, cA, rfl, _⟩ := hX.sl0
          replace hc := hX.rot
          clear hX
          (refine hK.out _ _ ?_ (fun hHeld => ?_); (focus ((try dsimp only); exact ck_keep hc (by repeat (first | exact List.mem_cons_self .. | apply List.mem_cons_of_mem)) HVS.out)); clear hK K; (try simp only [Act.put, List.setIfInBounds_toArray, List.set_cons_zero, List.set_cons_succ]))
          obtain ⟨W, rfl⟩ : ∃ W : World, W = W1 := ⟨_, rfl⟩
          refine wpAnyS_ready (rs := [22]) (by kernel_rfl) (by simp) ?_
          refine AllS.consL rfl (fun K hK => ?_) ?_
          · go_simp
            replace hc := hc.bq (.string line) 9
            generalize W.alloc (Obj.cells #[Value.string line] 9) = W1 at hc ⊢
            generalize W.heap.size = g1 at hc ⊢
            (refine hK.out _ _ ?_ (fun hHeld => ?_); (focus ((try dsimp only); exact ck_keep hc (by repeat (first | exact List.mem_cons_self .. | apply List.mem_cons_of_mem)) HVS.out)); clear hK K; (try simp only [Act.put, List.setIfInBounds_toArray, List.set_cons_zero, List.set_cons_succ]))
            obtain ⟨W, rfl⟩ : ∃ W : World, W = W1 := ⟨_, rfl⟩
            refine wpAnyS_ready (rs := [23]) (by kernel_rfl) (by simp) ?_
            refine AllS.consL rfl (fun K hK => ?_) ?_
            · refine step_app rfl _ _ 22 rfl Tryd.elStr (by exact hc) rfl (by first | exact hc.q0 | exact hc.q1 | exact hc.q2) (by intro u hu; simp at hu; subst hu; rfl) (by omega) ?_
              intro vB W1 hX _
              obtain ⟨nB, cB, rfl, _⟩ := hX.sl0
              replace hc := hX.rot
              clear hX
              (refine hK.out _ _ ?_ (fun hHeld => ?_); (focus ((try dsimp only); exact ck_keep hc (by repeat (first | exact List.mem_cons_self .. | apply List.mem_cons_of_mem)) HVS.out)); clear hK K; (try simp only [Act.put, List.setIfInBounds_toArray, List.set_cons_zero, List.set_cons_succ]))
              obtain ⟨W, rfl⟩ : ∃ W : World, W = W1 := ⟨_, rfl⟩
              (replace hc := hc.rot; refine wpAnyS_seq (by rfl) (by kernel_rfl) ?_; simp only [List.drop_succ_cons, List.drop_zero]; clear hHeld; go_wp2_with (first | ((with_reducible show wpList _ _ _ _ _ _); refine wpl_store1 rfl 22 _ _ rfl hc (cs.length * 4 + 1) rfl (.slice nO (run.length + 1) cO) rfl rfl (by kernel_rfl) (st3_len HVS.out _ _ _ _) rfl ?_; intro w5 hs5) | ((with_reducible show wpList _ _ _ _ _ _); refine wpl_store1 rfl 22 _ _ rfl hs5 (cs.length * 4 + 2) rfl (.slice nA (run.length + 1) cA) rfl rfl (by kernel_rfl) (by rw [st3_1 HVS.out]; exact st3_len2 HVS.out _ _ _ _) rfl ?_; intro w6 hs6) | ((with_reducible show wpList _ _ _ _ _ _); refine wpl_store1 rfl 22 _ _ rfl hs6 (cs.length * 4 + 3) rfl (.slice nB (run.length + 1) cB) rfl rfl (by kernel_rfl) (by rw [st3_1 HVS.out, st3_2 HVS.out]; exact st3_len3 HVS.out _ _ _ _) rfl ?_; intro w7 hs7)); go_end0; exact stable_leaf HVS.out rfl (by intro q hq; simp [hq]) hs7)
            exact AllS.nil
          exact AllS.nil
        refine AllS.consL rfl (fun K hK => ?_) ?_
        · go_simp
          replace hc := hc.bq (.string line) 9
          generalize W.alloc (Obj.cells #[Value.string line] 9) = W1 at hc ⊢
          generalize W.heap.size = g1 at hc ⊢
          (refine hK.out _ _ ?_ (fun hHeld => ?_); (focus ((try dsimp only); exact ck_keep hc (by repeat (first | exact List.mem_cons_self .. | apply List.mem_cons_of_mem)) HVS.out)); clear hK K; (try simp only [Act.put, List.setIfInBounds_toArray, List.set_cons_zero, List.set_cons_succ]))
          obtain ⟨W, rfl⟩ : ∃ W : World, W = W1 := ⟨_, rfl⟩
          refine wpAnyS_ready (rs := [16]) (by kernel_rfl) (by simp) ?_
          refine AllS.consL rfl (fun K hK => ?_) ?_
          · refine step_app rfl _ _ 22 rfl Tryd.elStr (by exact hc) rfl (by first | exact hc.q0 | exact hc.q1 | exact hc.q2) (by intro u hu; simp at hu; subst hu; rfl) (by omega) ?_
            intro vA W1 hX _
            obtain ⟨nA, cA, rfl, _⟩ := hX.sl0
            replace hc := hX.rot
            clear hX
            (refine hK.out _ _ ?_ (fun hHeld => ?_); (focus ((try dsimp only); exact ck_keep hc (by repeat (first | exact List.mem_cons_self .. | apply List.mem_cons_of_mem)) HVS.out)); clear hK K; (try simp only [Act.put, List.setIfInBounds_toArray, List.set_cons_zero, List.set_cons_succ]))
            obtain ⟨W, rfl⟩ : ∃ W : World, W = W1 := ⟨_, rfl⟩
            refine wpAnyS_ready (rs := [23]) (by kernel_rfl) (by simp) ?_
            refine AllS.consL rfl (fun K hK => ?_) ?_
            · refine step_app rfl _ _ 22 rfl Tryd.elStr (by exact hc) rfl (by first | exact hc.q0 | exact hc.q1 | exact hc.q2) (by intro u hu; simp at hu; subst hu; rfl) (by omega) ?_
              intro vB W1 hX _
              obtain ⟨nB, cB, rfl, _⟩ := hX.sl0
              replace hc := hX.rot
              clear hX
              (refine hK.out _ _ ?_ (fun hHeld => ?_); (focus ((try dsimp only); exact ck_keep hc (by repeat (first | exact List.mem_cons_self .. | apply List.mem_cons_of_mem)) HVS.out)); clear hK K; (try simp only [Act.put, List.setIfInBounds_toArray, List.set_cons_zero, List.set_cons_succ]))
              obtain ⟨W, rfl⟩ : ∃ W : World, W = W1 := ⟨_, rfl⟩
              (replace hc := hc.rot; refine wpAnyS_seq (by rfl) (by kernel_rfl) ?_; simp only [List.drop_succ_cons, List.drop_zero]; clear hHeld; go_wp2_with (first | ((with_reducible show wpList _ _ _ _ _ _); refine wpl_store1 rfl 22 _ _ rfl hc (cs.length * 4 + 1) rfl (.slice nO (run.length + 1) cO) rfl rfl (by kernel_rfl) (st3_len HVS.out _ _ _ _) rfl ?_; intro w5 hs5) | ((with_reducible show wpList _ _ _ _ _ _); refine wpl_store1 rfl 22 _ _ rfl hs5 (cs.length * 4 + 2) rfl (.slice nA (run.length + 1) cA) rfl rfl (by kernel_rfl) (by rw [st3_1 HVS.out]; exact st3_len2 HVS.out _ _ _ _) rfl ?_; intro w6 hs6) | ((with_reducible show wpList _ _ _ _ _ _); refine wpl_store1 rfl 22 _ _ rfl hs6 (cs.length * 4 + 3) rfl (.slice nB (run.length + 1) cB) rfl rfl (by kernel_rfl) (by rw [st3_1 HVS.out, st3_2 HVS.out]; exact st3_len3 HVS.out _ _ _ _) rfl ?_; intro w7 hs7)); go_end0; exact stable_leaf HVS.out rfl (by intro q hq; simp [hq]) hs7)
            exact AllS.nil
          exact AllS.nil
        exact AllS.nil
      refine AllS.consL rfl (fun K hK => ?_) ?_
      · go_simp
        replace hc := hc.bq (.string line) 9
        generalize W.alloc (Obj.cells #[Value.string line] 9) = W1 at hc ⊢
        generalize W.heap.size = g1 at hc ⊢
        (refine hK.out _ _ ?_ (fun hHeld => ?_); (focus ((try dsimp only); exact ck_keep hc (by repeat (first | exact List.mem_cons_self .. | apply List.mem_cons_of_mem)) HVS.out)); clear hK K; (try simp only [Act.put, List.setIfInBounds_toArray, List.set_cons_zero, List.set_cons_succ]))
        obtain ⟨W, rfl⟩ : ∃ W : World, W = W1 := ⟨_, rfl⟩
        refine wpAnyS_ready (rs := [9]) (by kernel_rfl) (by simp) ?_
        refine AllS.consL rfl (fun K hK => ?_) ?_
        · refine step_app rfl _ _ 22 rfl Tryd.elStr (by exact hc) rfl (by first | exact hc.q0 | exact hc.q1 | exact hc.q2) (by intro u hu; simp at hu; subst hu; rfl) (by omega) ?_
          intro vO W1 hX _
          obtain ⟨nO, cO, rfl, _⟩ := hX.sl0
          replace hc := hX.rot
          clear hX
          (refine hK.out _ _ ?_ (fun hHeld => ?_); (focus ((try dsimp only); exact ck_keep hc (by repeat (first | exact List.mem_cons_self .. | apply List.mem_cons_of_mem)) HVS.out)); clear hK K; (try simp only [Act.put, List.setIfInBounds_toArray, List.set_cons_zero, List.set_cons_succ]))
          obtain ⟨W, rfl⟩ : ∃ W : World, W = W1 := ⟨_, rfl⟩
          refine wpAnyS_ready (rs := [16]) (by kernel_rfl) (by simp) ?_
          refine AllS.consL rfl (fun K hK => ?_) ?_
          · refine step_app rfl _ _ 22 rfl Tryd.elStr (by exact hc) rfl (by first | exact hc.q0 | exact hc.q1 | exact hc.q2) (by intro u hu; simp at hu; subst hu; rfl) (by omega) ?_
            intro vA W1 hX _
            obtain ⟨nA, cA, rfl, _⟩ := hX.sl0
            replace hc := hX.rot
            clear hX
            (refine hK.out _ _ ?_ (fun hHeld => ?_); (focus ((try dsimp only); exact ck_keep hc (by repeat (first | exact List.mem_cons_self .. | apply List.mem_cons_of_mem)) HVS.out)); clear hK K; (try simp only [Act.put, List.setIfInBounds_toArray, List.set_cons_zero, List.set_cons_succ]))
            obtain ⟨W, rfl⟩ : ∃ W : World, W = W1 := ⟨_, rfl⟩
            refine wpAnyS_ready (rs := [23]) (by kernel_rfl) (by simp) ?_
            refine AllS.consL rfl (fun K hK => ?_) ?_
            · refine step_app rfl _ _ 22 rfl Tryd.elStr (by exact hc) rfl (by first | exact hc.q0 | exact hc.q1 | exact hc.q2) (by intro u hu; simp at hu; subst hu; rfl) (by omega) ?_
              intro vB W1 hX _
              obtain ⟨nB, cB, rfl, _⟩ := hX.sl0
              replace hc := hX.rot
              clear hX
              (refine hK.out _ _ ?_ (fun hHeld => ?_); (focus ((try dsimp only); exact ck_keep hc (by repeat (first | exact List.mem_cons_self .. | apply List.mem_cons_of_mem)) HVS.out)); clear hK K; (try simp only [Act.put, List.setIfInBounds_toArray, List.set_cons_zero, List.set_cons_succ]))
              obtain ⟨W, rfl⟩ : ∃ W : World, W = W1 := ⟨_, rfl⟩
              (replace hc := hc.rot; refine wpAnyS_seq (by rfl) (by kernel_rfl) ?_; simp only [List.drop_succ_cons, List.drop_zero]; clear hHeld; go_wp2_with (first | ((with_reducible show wpList _ _ _ _ _ _); refine wpl_store1 rfl 22 _ _ rfl hc (cs.length * 4 + 1) rfl (.slice nO (run.length + 1) cO) rfl rfl (by kernel_rfl) (st3_len HVS.out _ _ _ _) rfl ?_; intro w5 hs5) | ((with_reducible show wpList _ _ _ _ _ _); refine wpl_store1 rfl 22 _ _ rfl hs5 (cs.length * 4 + 2) rfl (.slice nA (run.length + 1) cA) rfl rfl (by kernel_rfl) (by rw [st3_1 HVS.out]; exact st3_len2 HVS.out _ _ _ _) rfl ?_; intro w6 hs6) | ((with_reducible show wpList _ _ _ _ _ _); refine wpl_store1 rfl 22 _ _ rfl hs6 (cs.length * 4 + 3) rfl (.slice nB (run.length + 1) cB) rfl rfl (by kernel_rfl) (by rw [st3_1 HVS.out, st3_2 HVS.out]; exact st3_len3 HVS.out _ _ _ _) rfl ?_; intro w7 hs7)); go_end0; exact stable_leaf HVS.out rfl (by intro q hq; simp [hq]) hs7)
            exact AllS.nil
          exact AllS.nil
        exact AllS.nil
      exact AllS.nil
    refine AllS.consL rfl (fun K hK => ?_) ?_
    · go_simp
      replace hc := hc.bq (.string line) 9
      generalize W.alloc (Obj.cells #[Value.string line] 9) = W1 at hc ⊢
      generalize W.heap.size = g1 at hc ⊢
      (refine hK.out _ _ ?_ (fun hHeld => ?_); (focus ((try dsimp only); exact ck_keep hc (by repeat (first | exact List.mem_cons_self .. | apply List.mem_cons_of_mem)) HVS.out)); clear hK K; (try simp only [Act.put, List.setIfInBounds_toArray, List.set_cons_zero, List.set_cons_succ]))
      obtain ⟨W, rfl⟩ : ∃ W : World, W = W1 := ⟨_, rfl⟩
      refine wpAnyS_ready (rs := [8]) (by kernel_rfl) (by simp) ?_
      refine AllS.consL rfl (fun K hK => ?_) ?_
      · go_simp
        replace hc := hc.bq (.string line) 9
        generalize W.alloc (Obj.cells #[Value.string line] 9) = W1 at hc ⊢
        generalize W.heap.size = g1 at hc ⊢
        (refine hK.out _ _ ?_ (fun hHeld => ?_); (focus ((try dsimp only); exact ck_keep hc (by repeat (first | exact List.mem_cons_self .. | apply List.mem_cons_of_mem)) HVS.out)); clear hK K; (try simp only [Act.put, List.setIfInBounds_toArray, List.set_cons_zero, List.set_cons_succ]))
        obtain ⟨W, rfl⟩ : ∃ W : World, W = W1 := ⟨_, rfl⟩
        refine wpAnyS_ready (rs := [9]) (by kernel_rfl) (by simp) ?_
        refine AllS.consL rfl (fun K hK => ?_) ?_
        · refine step_app rfl _ _ 22 rfl Tryd.elStr (by exact hc) rfl (by first | exact hc.q0 | exact hc.q1 | exact hc.q2) (by intro u hu; simp at hu; subst hu; rfl) (by omega) ?_
          intro vO W1 hX _
          obtain ⟨nO, cO, rfl, _⟩ := hX.sl0
          replace hc := hX.rot
          clear hX
          (refine hK.out _ _ ?_ (fun hHeld => ?_); (focus ((try dsimp only); exact ck_keep hc (by repeat (first | exact List.mem_cons_self .. | apply List.mem_cons_of_mem)) HVS.out)); clear hK K; (try simp only [Act.put, List.setIfInBounds_toArray, List.set_cons_zero, List.set_cons_succ]))
          obtain ⟨W, rfl⟩ : ∃ W : World, W = W1 := ⟨_, rfl⟩
          refine wpAnyS_ready (rs := [16]) (by kernel_rfl) (by simp) ?_
          refine AllS.consL rfl (fun K hK => ?_) ?_
          · refine step_app rfl _ _ 22 rfl Tryd.elStr (by exact hc) rfl (by first | exact hc.q0 | exact hc.q1 | exact hc.q2) (by intro u hu; simp at hu; subst hu; rfl) (by omega) ?_
            intro vA W1 hX _
            obtain ⟨nA, cA, rfl, _⟩ := hX.sl0
            replace hc := hX.rot
            clear hX
            (refine hK.out _ _ ?_ (fun hHeld => ?_); (focus ((try dsimp only); exact ck_keep hc (by repeat (first | exact List.mem_cons_self .. | apply List.mem_cons_of_mem)) HVS.out)); clear hK K; (try simp only [Act.put, List.setIfInBounds_toArray, List.set_cons_zero, List.set_cons_succ]))
            obtain ⟨W, rfl⟩ : ∃ W : World, W = W1 := ⟨_, rfl⟩
            refine wpAnyS_ready (rs := [23]) (by kernel_rfl) (by simp) ?_
            refine AllS.consL rfl (fun K hK => ?_) ?_
            · refine step_app rfl _ _ 22 rfl Tryd.elStr (by exact hc) rfl (by first | exact hc.q0 | exact hc.q1 | exact hc.q2) (by intro u hu; simp at hu; subst hu; rfl) (by omega) ?_
              intro vB W1 hX _
              obtain ⟨nB, cB, rfl, _⟩ := hX.sl0
              replace hc := hX.rot
              clear hX
              (refine hK.out _ _ ?_ (fun hHeld => ?_); (focus ((try dsimp only); exact ck_keep hc (by repeat (first | exact List.mem_cons_self .. | apply List.mem_cons_of_mem)) HVS.out)); clear hK K; (try simp only [Act.put, List.setIfInBounds_toArray, List.set_cons_zero, List.set_cons_succ]))
              obtain ⟨W, rfl⟩ : ∃ W : World, W = W1 := ⟨_, rfl⟩
              (replace hc := hc.rot; refine wpAnyS_seq (by rfl) (by kernel_rfl) ?_; simp only [List.drop_succ_cons, List.drop_zero]; clear hHeld; go_wp2_with (first | ((with_reducible show wpList _ _ _ _ _ _); refine wpl_store1 rfl 22 _ _ rfl hc (cs.length * 4 + 1) rfl (.slice nO (run.length + 1) cO) rfl rfl (by kernel_rfl) (st3_len HVS.out _ _ _ _) rfl ?_; intro w5 hs5) | ((with_reducible show wpList _ _ _ _ _ _); refine wpl_store1 rfl 22 _ _ rfl hs5 (cs.length * 4 + 2) rfl (.slice nA (run.length + 1) cA) rfl rfl (by kernel_rfl) (by rw [st3_1 HVS.out]; exact st3_len2 HVS.out _ _ _ _) rfl ?_; intro w6 hs6) | ((with_reducible show wpList _ _ _ _ _ _); refine wpl_store1 rfl 22 _ _ rfl hs6 (cs.length * 4 + 3) rfl (.slice nB (run.length + 1) cB) rfl rfl (by kernel_rfl) (by rw [st3_1 HVS.out, st3_2 HVS.out]; exact st3_len3 HVS.out _ _ _ _) rfl ?_; intro w7 hs7)); go_end0; exact stable_leaf HVS.out rfl (by intro q hq; simp [hq]) hs7)
            exact AllS.nil
          exact AllS.nil
        exact AllS.nil
      exact AllS.nil
    exact AllS.nil
  refine AllS.consL rfl (fun K hK => ?_) ?_
  · go_simp
    replace hc := hc.bq (.string line) 9
    generalize W.alloc (Obj.cells #[Value.string line] 9) = W1 at hc ⊢
    generalize W.heap.size = g1 at hc ⊢
    (refine hK.out _ _ ?_ (fun hHeld => ?_); (focus ((try dsimp only); exact ck_keep hc (by repeat (first | exact List.mem_cons_self .. | apply List.mem_cons_of_mem)) HVS.out)); clear hK K; (try simp only [Act.put, List.setIfInBounds_toArray, List.set_cons_zero, List.set_cons_succ]))
    obtain ⟨W, rfl⟩ : ∃ W : World, W = W1 := ⟨_, rfl⟩
    refine wpAnyS_ready (rs := [8, 15]) (by kernel_rfl) (by simp) ?_
    refine AllS.consL rfl (fun K hK => ?_) ?_
    · go_simp
      replace hc := hc.bq (.string line) 9
      generalize W.alloc (Obj.cells #[Value.string line] 9) = W1 at hc ⊢
      generalize W.heap.size = g1 at hc ⊢
      (refine hK.out _ _ ?_ (fun hHeld => ?_); (focus ((try dsimp only); exact ck_keep hc (by repeat (first | exact List.mem_cons_self .. | apply List.mem_cons_of_mem)) HVS.out)); clear hK K; (try simp only [Act.put, List.setIfInBounds_toArray, List.set_cons_zero, List.set_cons_succ]))
      obtain ⟨W, rfl⟩ : ∃ W : World, W = W1 := ⟨_, rfl⟩
      refine wpAnyS_ready (rs := [9, 15]) (by kernel_rfl) (by simp) ?_
      refine AllS.consL rfl (fun K hK => ?_) ?_
      · refine step_app rfl _ _ 22 rfl Tryd.elStr (by exact hc) rfl (by first | exact hc.q0 | exact hc.q1 | exact hc.q2) (by intro u hu; simp at hu; subst hu; rfl) (by omega) ?_
        intro vO W1 hX _
        obtain ⟨nO, cO, rfl, _⟩ := hX.sl0
        replace hc := hX.rot
        clear hX
        (refine hK.out _ _ ?_ (fun hHeld => ?_); (focus ((try dsimp only); exact ck_keep hc (by repeat (first | exact List.mem_cons_self .. | apply List.mem_cons_of_mem)) HVS.out)); clear hK K; (try simp only [Act.put, List.setIfInBounds_toArray, List.set_cons_zero, List.set_cons_succ]))
        obtain ⟨W, rfl⟩ : ∃ W : World, W = W1 := ⟨_, rfl⟩
        refine wpAnyS_ready (rs := [15]) (by kernel_rfl) (by simp) ?_
        refine AllS.consL rfl (fun K hK => ?_) ?_
        · go_simp
          replace hc := hc.bq (.string line) 9
          generalize W.alloc (Obj.cells #[Value.string line] 9) = W1 at hc ⊢
          generalize W.heap.size = g1 at hc ⊢
          (refine hK.out _ _ ?_ (fun hHeld => ?_); (focus ((try dsimp only); exact ck_keep hc (by repeat (first | exact List.mem_cons_self .. | apply List.mem_cons_of_mem)) HVS.out)); clear hK K; (try simp only [Act.put, List.setIfInBounds_toArray, List.set_cons_zero, List.set_cons_succ]))
          obtain ⟨W, rfl⟩ : ∃ W : World, W = W1 := ⟨_, rfl⟩
          refine wpAnyS_ready (rs := [16]) (by kernel_rfl) (by simp) ?_
          refine AllS.consL rfl (fun K hK => ?_) ?_
          · refine step_app rfl _ _ 22 rfl Tryd.elStr (by exact hc) rfl (by first | exact hc.q0 | exact hc.q1 | exact hc.q2) (by intro u hu; simp at hu; subst hu; rfl) (by omega) ?_
            intro vA W1 hX _
            obtain ⟨nA, cA, rfl, _⟩ := hX.sl0
            replace hc := hX.rot
            clear hX
            (refine hK.out _ _ ?_ (fun hHeld => ?_); (focus ((try dsimp only); exact ck_keep hc (by repeat (first | exact List.mem_cons_self .. | apply List.mem_cons_of_mem)) HVS.out)); clear hK K; (try simp only [Act.put, List.setIfInBounds_toArray, List.set_cons_zero, List.set_cons_succ]))
            obtain ⟨W, rfl⟩ : ∃ W : World, W = W1 := ⟨_, rfl⟩
            refine wpAnyS_ready (rs := [23]) (by kernel_rfl) (by simp) ?_
            refine AllS.consL rfl (fun K hK => ?_) ?_
            · refine step_app rfl _ _ 22 rfl Tryd.elStr (by exact hc) rfl (by first | exact hc.q0 | exact hc.q1 | exact hc.q2) (by intro u hu; simp at hu; subst hu; rfl) (by omega) ?_
              intro vB W1 hX _
              obtain ⟨nB, cB, rfl, _⟩ := hX.sl0
              replace hc := hX.rot
              clear hX
              (refine hK.out _ _ ?_ (fun hHeld => ?_); (focus ((try dsimp only); exact ck_keep hc (by repeat (first | exact List.mem_cons_self .. | apply List.mem_cons_of_mem)) HVS.out)); clear hK K; (try simp only [Act.put, List.setIfInBounds_toArray, List.set_cons_zero, List.set_cons_succ]))
              obtain ⟨W, rfl⟩ : ∃ W : World, W = W1 := ⟨_, rfl⟩
              (replace hc := hc.rot; refine wpAnyS_seq (by rfl) (by kernel_rfl) ?_; simp only [List.drop_succ_cons, List.drop_zero]; clear hHeld; go_wp2_with (first | ((with_reducible show wpList _ _ _ _ _ _); refine wpl_store1 rfl 22 _ _ rfl hc (cs.length * 4 + 1) rfl (.slice nO (run.length + 1) cO) rfl rfl (by kernel_rfl) (st3_len HVS.out _ _ _ _) rfl ?_; intro w5 hs5) | ((with_reducible show wpList _ _ _ _ _ _); refine wpl_store1 rfl 22 _ _ rfl hs5 (cs.length * 4 + 2) rfl (.slice nA (run.length + 1) cA) rfl rfl (by kernel_rfl) (by rw [st3_1 HVS.out]; exact st3_len2 HVS.out _ _ _ _) rfl ?_; intro w6 hs6) | ((with_reducible show wpList _ _ _ _ _ _); refine wpl_store1 rfl 22 _ _ rfl hs6 (cs.length * 4 + 3) rfl (.slice nB (run.length + 1) cB) rfl rfl (by kernel_rfl) (by rw [st3_1 HVS.out, st3_2 HVS.out]; exact st3_len3 HVS.out _ _ _ _) rfl ?_; intro w7 hs7)); go_end0; exact stable_leaf HVS.out rfl (by intro q hq; simp [hq]) hs7)
            exact AllS.nil
          exact AllS.nil
        exact AllS.nil
      refine AllS.consL rfl (fun K hK => ?_) ?_
      · go_simp
        replace hc := hc.bq (.string line) 9
        generalize W.alloc (Obj.cells #[Value.string line] 9) = W1 at hc ⊢
        generalize W.heap.size = g1 at hc ⊢
        (refine hK.out _ _ ?_ (fun hHeld => ?_); (focus ((try dsimp only); exact ck_keep hc (by repeat (first | exact List.mem_cons_self .. | apply List.mem_cons_of_mem)) HVS.out)); clear hK K; (try simp only [Act.put, List.setIfInBounds_toArray, List.set_cons_zero, List.set_cons_succ]))
        obtain ⟨W, rfl⟩ : ∃ W : World, W = W1 := ⟨_, rfl⟩
        refine wpAnyS_ready (rs := [9]) (by kernel_rfl) (by simp) ?_
        refine AllS.consL rfl (fun K hK => ?_) ?_
        · refine step_app rfl _ _ 22 rfl Tryd.elStr (by exact hc) rfl (by first | exact hc.q0 | exact hc.q1 | exact hc.q2) (by intro u hu; simp at hu; subst hu; rfl) (by omega) ?_
          intro vO W1 hX _
          obtain ⟨nO, cO, rfl, _⟩ := hX.sl0
          replace hc := hX.rot
          clear hX
          (refine hK.out _ _ ?_ (fun hHeld => ?_); (focus ((try dsimp only); exact ck_keep hc (by repeat (first | exact List.mem_cons_self .. | apply List.mem_cons_of_mem)) HVS.out)); clear hK K; (try simp only [Act.put, List.setIfInBounds_toArray, List.set_cons_zero, List.set_cons_succ]))
          obtain ⟨W, rfl⟩ : ∃ W : World, W = W1 := ⟨_, rfl⟩
          refine wpAnyS_ready (rs := [16]) (by kernel_rfl) (by simp) ?_
          refine AllS.consL rfl (fun K hK => ?_) ?_
          · refine step_app rfl _ _ 22 rfl Tryd.elStr (by exact hc) rfl (by first | exact hc.q0 | exact hc.q1 | exact hc.q2) (by intro u hu; simp at hu; subst hu; rfl) (by omega) ?_
            intro vA W1 hX _
            obtain ⟨nA, cA, rfl, _⟩ := hX.sl0
            replace hc := hX.rot
            clear hX
            (refine hK.out _ _ ?_ (fun hHeld => ?_); (focus ((try dsimp only); exact ck_keep hc (by repeat (first | exact List.mem_cons_self .. | apply List.mem_cons_of_mem)) HVS.out)); clear hK K; (try simp only [Act.put, List.setIfInBounds_toArray, List.set_cons_zero, List.set_cons_succ]))
            obtain ⟨W, rfl⟩ : ∃ W : World, W = W1 := ⟨_, rfl⟩
            refine wpAnyS_ready (rs := [23]) (by kernel_rfl) (by simp) ?_
            refine AllS.consL rfl (fun K hK => ?_) ?_
            · refine step_app rfl _ _ 22 rfl Tryd.elStr (by exact hc) rfl (by first | exact hc.q0 | exact hc.q1 | exact hc.q2) (by intro u hu; simp at hu; subst hu; rfl) (by omega) ?_
              intro vB W1 hX _
              obtain ⟨nB, cB, rfl, _⟩ := hX.sl0
              replace hc := hX.rot
              clear hX
              (refine hK.out _ _ ?_ (fun hHeld => ?_); (focus ((try dsimp only); exact ck_keep hc (by repeat (first | exact List.mem_cons_self .. | apply List.mem_cons_of_mem)) HVS.out)); clear hK K; (try simp only [Act.put, List.setIfInBounds_toArray, List.set_cons_zero, List.set_cons_succ]))
              obtain ⟨W, rfl⟩ : ∃ W : World, W = W1 := ⟨_, rfl⟩
              (replace hc := hc.rot; refine wpAnyS_seq (by rfl) (by kernel_rfl) ?_; simp only [List.drop_succ_cons, List.drop_zero]; clear hHeld; go_wp2_with (first | ((with_reducible show wpList _ _ _ _ _ _); refine wpl_store1 rfl 22 _ _ rfl hc (cs.length * 4 + 1) rfl (.slice nO (run.length + 1) cO) rfl rfl (by kernel_rfl) (st3_len HVS.out _ _ _ _) rfl ?_; intro w5 hs5) | ((with_reducible show wpList _ _ _ _ _ _); refine wpl_store1 rfl 22 _ _ rfl hs5 (cs.length * 4 + 2) rfl (.slice nA (run.length + 1) cA) rfl rfl (by kernel_rfl) (by rw [st3_1 HVS.out]; exact st3_len2 HVS.out _ _ _ _) rfl ?_; intro w6 hs6) | ((with_reducible show wpList _ _ _ _ _ _); refine wpl_store1 rfl 22 _ _ rfl hs6 (cs.length * 4 + 3) rfl (.slice nB (run.length + 1) cB) rfl rfl (by kernel_rfl) (by rw [st3_1 HVS.out, st3_2 HVS.out]; exact st3_len3 HVS.out _ _ _ _) rfl ?_; intro w7 hs7)); go_end0; exact stable_leaf HVS.out rfl (by intro q hq; simp [hq]) hs7)
            exact AllS.nil
          exact AllS.nil
        exact AllS.nil
      exact AllS.nil
    refine AllS.consL rfl (fun K hK => ?_) ?_
    · go_simp
      replace hc := hc.bq (.string line) 9
      generalize W.alloc (Obj.cells #[Value.string line] 9) = W1 at hc ⊢
      generalize W.heap.size = g1 at hc ⊢
      (refine hK.out _ _ ?_ (fun hHeld => ?_); (focus ((try dsimp only); exact ck_keep hc (by repeat (first | exact List.mem_cons_self .. | apply List.mem_cons_of_mem)) HVS.out)); clear hK K; (try simp only [Act.put, List.setIfInBounds_toArray, List.set_cons_zero, List.set_cons_succ]))
      obtain ⟨W, rfl⟩ : ∃ W : World, W = W1 := ⟨_, rfl⟩
      refine wpAnyS_ready (rs := [8]) (by kernel_rfl) (by simp) ?_
      refine AllS.consL rfl (fun K hK => ?_) ?_
      · go_simp
        replace hc := hc.bq (.string line) 9
        generalize W.alloc (Obj.cells #[Value.string line] 9) = W1 at hc ⊢
        generalize W.heap.size = g1 at hc ⊢
        (refine hK.out _ _ ?_ (fun hHeld => ?_); (focus ((try dsimp only); exact ck_keep hc (by repeat (first | exact List.mem_cons_self .. | apply List.mem_cons_of_mem)) HVS.out)); clear hK K; (try simp only [Act.put, List.setIfInBounds_toArray, List.set_cons_zero, List.set_cons_succ]))
        obtain ⟨W, rfl⟩ : ∃ W : World, W = W1 := ⟨_, rfl⟩
        refine wpAnyS_ready (rs := [9]) (by kernel_rfl) (by simp) ?_
        refine AllS.consL rfl (fun K hK => ?_) ?_
        · refine step_app rfl _ _ 22 rfl Tryd.elStr (by exact hc) rfl (by first | exact hc.q0 | exact hc.q1 | exact hc.q2) (by intro u hu; simp at hu; subst hu; rfl) (by omega) ?_
          intro vO W1 hX _
          obtain ⟨nO, cO, rfl, _⟩ := hX.sl0
          replace hc := hX.rot
          clear hX
          (refine hK.out _ _ ?_ (fun hHeld => ?_); (focus ((try dsimp only); exact ck_keep hc (by repeat (first | exact List.mem_cons_self .. | apply List.mem_cons_of_mem)) HVS.out)); clear hK K; (try simp only [Act.put, List.setIfInBounds_toArray, List.set_cons_zero, List.set_cons_succ]))
          obtain ⟨W, rfl⟩ : ∃ W : World, W = W1 := ⟨_, rfl⟩
          refine wpAnyS_ready (rs := [16]) (by kernel_rfl) (by simp) ?_
          refine AllS.consL rfl (fun K hK => ?_) ?_
          · refine step_app rfl _ _ 22 rfl Tryd.elStr (by exact hc) rfl (by first | exact hc.q0 | exact hc.q1 | exact hc.q2) (by intro u hu; simp at hu; subst hu; rfl) (by omega) ?_
            intro vA W1 hX _
            obtain ⟨nA, cA, rfl, _⟩ := hX.sl0
            replace hc := hX.rot
            clear hX
            (refine hK.out _ _ ?_ (fun hHeld => ?_); (focus ((try dsimp only); exact ck_keep hc (by repeat (first | exact List.mem_cons_self .. | apply List.mem_cons_of_mem)) HVS.out)); clear hK K; (try simp only [Act.put, List.setIfInBounds_toArray, List.set_cons_zero, List.set_cons_succ]))
            obtain ⟨W, rfl⟩ : ∃ W : World, W = W1 := ⟨_, rfl⟩
            refine wpAnyS_ready (rs := [23]) (by kernel_rfl) (by simp) ?_
            refine AllS.consL rfl (fun K hK => ?_) ?_
            · refine step_app rfl _ _ 22 rfl Tryd.elStr (by exact hc) rfl (by first | exact hc.q0 | exact hc.q1 | exact hc.q2) (by intro u hu; simp at hu; subst hu; rfl) (by omega) ?_
              intro vB W1 hX _
              obtain ⟨nB, cB, rfl, _⟩ := hX.sl0
              replace hc := hX.rot
              clear hX
              (refine hK.out _ _ ?_ (fun hHeld => ?_); (focus ((try dsimp only); exact ck_keep hc (by repeat (first | exact List.mem_cons_self .. | apply List.mem_cons_of_mem)) HVS.out)); clear hK K; (try simp only [Act.put, List.setIfInBounds_toArray, List.set_cons_zero, List.set_cons_succ]))
              obtain ⟨W, rfl⟩ : ∃ W : World, W = W1 := ⟨_, rfl⟩
              (replace hc := hc.rot; refine wpAnyS_seq (by rfl) (by kernel_rfl) ?_; simp only [List.drop_succ_cons, List.drop_zero]; clear hHeld; go_wp2_with (first | ((with_reducible show wpList _ _ _ _ _ _); refine wpl_store1 rfl 22 _ _ rfl hc (cs.length * 4 + 1) rfl (.slice nO (run.length + 1) cO) rfl rfl (by kernel_rfl) (st3_len HVS.out _ _ _ _) rfl ?_; intro w5 hs5) | ((with_reducible show wpList _ _ _ _ _ _); refine wpl_store1 rfl 22 _ _ rfl hs5 (cs.length * 4 + 2) rfl (.slice nA (run.length + 1) cA) rfl rfl (by kernel_rfl) (by rw [st3_1 HVS.out]; exact st3_len2 HVS.out _ _ _ _) rfl ?_; intro w6 hs6) | ((with_reducible show wpList _ _ _ _ _ _); refine wpl_store1 rfl 22 _ _ rfl hs6 (cs.length * 4 + 3) rfl (.slice nB (run.length + 1) cB) rfl rfl (by kernel_rfl) (by rw [st3_1 HVS.out, st3_2 HVS.out]; exact st3_len3 HVS.out _ _ _ _) rfl ?_; intro w7 hs7)); go_end0; exact stable_leaf HVS.out rfl (by intro q hq; simp [hq]) hs7)
            exact AllS.nil
          exact AllS.nil
        exact AllS.nil
      exact AllS.nil
    exact AllS.nil
  exact AllS.nil
end Go.Proofs.YtafmgclhgmhflaaDoor
