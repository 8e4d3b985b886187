/- Walk of the hasher's Copy. -/
import Derived.Test.YtlfdnlomlbbicaaDoorShaV
namespace Go.Proofs.YtlfdnlomlbbicaaDoor
open Go.RowKit Go.Mx

theorem hrow_cells {w0 w : World} {R : List Row} {Q : List Rd} {g gc : Nat} {s : S8} {vr : Value} {n : Int} (hs : St w0 w (hrow g gc s vr n :: R) Q) : w.cell? ⟨g, 0, none⟩ = some (.pointer (some ⟨gc, 0, none⟩)) ∧ w.cell? ⟨g, 1, none⟩ = some (.int .u32 (s.a.toNat : Int)) ∧ w.cell? ⟨g, 2, none⟩ = some (.int .u32 (s.b.toNat : Int)) ∧ w.cell? ⟨g, 3, none⟩ = some (.int .u32 (s.c.toNat : Int)) ∧ w.cell? ⟨g, 4, none⟩ = some (.int .u32 (s.d.toNat : Int)) ∧ w.cell? ⟨g, 5, none⟩ = some (.int .u32 (s.e.toNat : Int)) ∧ w.cell? ⟨g, 6, none⟩ = some (.int .u32 (s.f.toNat : Int)) ∧ w.cell? ⟨g, 7, none⟩ = some (.int .u32 (s.g.toNat : Int)) ∧ w.cell? ⟨g, 8, none⟩ = some (.int .u32 (s.h.toNat : Int)) ∧ w.cell? ⟨g, 9, none⟩ = some vr ∧ w.cell? ⟨g, 10, none⟩ = some (.int .i64 n) := by
  refine ⟨?_, ?_, ?_, ?_, ?_, ?_, ?_, ?_, ?_, ?_, ?_⟩ <;> exact hs.rcell (List.mem_cons_self ..) rfl

def CopyPost (w0 : World) (R : List Row) (Q : List Rd) (g gc : Nat) (s : S8) (vr : Value) (n : Int) (r : List UInt8) (e : Ending) (w' : World) : Prop :=
  ∃ g' v', e = .returned (.pointer (some ⟨g', 0, none⟩)) ∧ St w0 w' (hrow g' gc s v' n :: hrow g gc s vr n :: R) (⟨v', 1, r.length, bs r⟩ :: ⟨vr, 1, r.length, bs r⟩ :: Q)

set_option maxRecDepth 100000 in
set_option maxHeartbeats 4000000 in
theorem copy_any (w0 w : World) (R : List Row) (Q : List Rd) (g gc : Nat) (s : S8) (vr : Value) (n : Int) (r : List UInt8) (hs : St w0 w (hrow g gc s vr n :: R) (⟨vr, 1, r.length, bs r⟩ :: Q)) (hrl : r.length ≤ 4096) :
    Calls Tryd.prog 40 #[.pointer (some ⟨g, 0, none⟩)] w (CopyPost w0 R Q g gc s vr n r) := by
  obtain ⟨ro, rc, rfl, _⟩ := id hs.q0
  obtain ⟨c0, c1, c2, c3, c4, c5, c6, c7, c8, c9, c10⟩ := hrow_cells hs
  go_enter Tryd.func40, Tryd.ntmps40
  go_wp2_with fail
  generalize hvr : Value.slice ro r.length rc = vr at *
  (refine wp_region_S (19) (fun W' => W'.cell? ⟨g, 0, none⟩ = some (.pointer (some ⟨gc, 0, none⟩)) ∧ W'.cell? ⟨g, 1, none⟩ = some (.int .u32 (s.a.toNat : Int)) ∧ W'.cell? ⟨g, 2, none⟩ = some (.int .u32 (s.b.toNat : Int)) ∧ W'.cell? ⟨g, 3, none⟩ = some (.int .u32 (s.c.toNat : Int)) ∧ W'.cell? ⟨g, 4, none⟩ = some (.int .u32 (s.d.toNat : Int)) ∧ W'.cell? ⟨g, 5, none⟩ = some (.int .u32 (s.e.toNat : Int)) ∧ W'.cell? ⟨g, 6, none⟩ = some (.int .u32 (s.f.toNat : Int)) ∧ W'.cell? ⟨g, 7, none⟩ = some (.int .u32 (s.g.toNat : Int)) ∧ W'.cell? ⟨g, 8, none⟩ = some (.int .u32 (s.h.toNat : Int)) ∧ W'.cell? ⟨g, 9, none⟩ = some vr ∧ W'.cell? ⟨g, 10, none⟩ = some (.int .i64 n)) (by kernel_rfl) ?_ (fun hHeld => ?_); (focus ((try dsimp only); exact hrow_cells hs.drew)))
  (refine wpAnyS_takeL (i := 0) (v := ?_) rfl (by kernel_rfl) (by kernel_rfl) (by kernel_rfl) (by kernel_rfl) (by kernel_rfl) (by kernel_rfl) (fun _ _ _ h => h) (Or.inl ⟨by rfl, ?_⟩) hHeld ?_; rotate_left 1; (focus (intro w' hSw; (try dsimp only at hSw); go_simp; (try with_reducible rfl))); (try simp only [Act.put, List.setIfInBounds_toArray, List.set_cons_zero, List.set_cons_succ]))
  (refine wpAnyS_takeL (i := 1) (v := ?_) rfl (by kernel_rfl) (by kernel_rfl) (by kernel_rfl) (by kernel_rfl) (by kernel_rfl) (by kernel_rfl) (fun _ _ _ h => h) (Or.inl ⟨by rfl, ?_⟩) hHeld ?_; rotate_left 1; (focus (intro w' hSw; (try dsimp only at hSw); go_simp; (try with_reducible rfl))); (try simp only [Act.put, List.setIfInBounds_toArray, List.set_cons_zero, List.set_cons_succ]))
  (refine wpAnyS_takeL (i := 2) (v := ?_) rfl (by kernel_rfl) (by kernel_rfl) (by kernel_rfl) (by kernel_rfl) (by kernel_rfl) (by kernel_rfl) (fun _ _ _ h => h) (Or.inl ⟨by rfl, ?_⟩) hHeld ?_; rotate_left 1; (focus (intro w' hSw; (try dsimp only at hSw); go_simp; (try with_reducible rfl))); (try simp only [Act.put, List.setIfInBounds_toArray, List.set_cons_zero, List.set_cons_succ]))
  (refine wpAnyS_takeL (i := 3) (v := ?_) rfl (by kernel_rfl) (by kernel_rfl) (by kernel_rfl) (by kernel_rfl) (by kernel_rfl) (by kernel_rfl) (fun _ _ _ h => h) (Or.inl ⟨by rfl, ?_⟩) hHeld ?_; rotate_left 1; (focus (intro w' hSw; (try dsimp only at hSw); go_simp; (try with_reducible rfl))); (try simp only [Act.put, List.setIfInBounds_toArray, List.set_cons_zero, List.set_cons_succ]))
  (refine wpAnyS_takeL (i := 4) (v := ?_) rfl (by kernel_rfl) (by kernel_rfl) (by kernel_rfl) (by kernel_rfl) (by kernel_rfl) (by kernel_rfl) (fun _ _ _ h => h) (Or.inl ⟨by rfl, ?_⟩) hHeld ?_; rotate_left 1; (focus (intro w' hSw; (try dsimp only at hSw); go_simp; (try with_reducible rfl))); (try simp only [Act.put, List.setIfInBounds_toArray, List.set_cons_zero, List.set_cons_succ]))
  (refine wpAnyS_takeL (i := 5) (v := ?_) rfl (by kernel_rfl) (by kernel_rfl) (by kernel_rfl) (by kernel_rfl) (by kernel_rfl) (by kernel_rfl) (fun _ _ _ h => h) (Or.inl ⟨by rfl, ?_⟩) hHeld ?_; rotate_left 1; (focus (intro w' hSw; (try dsimp only at hSw); go_simp; (try with_reducible rfl))); (try simp only [Act.put, List.setIfInBounds_toArray, List.set_cons_zero, List.set_cons_succ]))
  (refine wpAnyS_takeL (i := 6) (v := ?_) rfl (by kernel_rfl) (by kernel_rfl) (by kernel_rfl) (by kernel_rfl) (by kernel_rfl) (by kernel_rfl) (fun _ _ _ h => h) (Or.inl ⟨by rfl, ?_⟩) hHeld ?_; rotate_left 1; (focus (intro w' hSw; (try dsimp only at hSw); go_simp; (try with_reducible rfl))); (try simp only [Act.put, List.setIfInBounds_toArray, List.set_cons_zero, List.set_cons_succ]))
  (refine wpAnyS_takeL (i := 7) (v := ?_) rfl (by kernel_rfl) (by kernel_rfl) (by kernel_rfl) (by kernel_rfl) (by kernel_rfl) (by kernel_rfl) (fun _ _ _ h => h) (Or.inl ⟨by rfl, ?_⟩) hHeld ?_; rotate_left 1; (focus (intro w' hSw; (try dsimp only at hSw); go_simp; (try with_reducible rfl))); (try simp only [Act.put, List.setIfInBounds_toArray, List.set_cons_zero, List.set_cons_succ]))
  (refine wpAnyS_takeL (i := 8) (v := ?_) rfl (by kernel_rfl) (by kernel_rfl) (by kernel_rfl) (by kernel_rfl) (by kernel_rfl) (by kernel_rfl) (fun _ _ _ h => h) (Or.inl ⟨by rfl, ?_⟩) hHeld ?_; rotate_left 1; (focus (intro w' hSw; (try dsimp only at hSw); go_simp; (try with_reducible rfl))); (try simp only [Act.put, List.setIfInBounds_toArray, List.set_cons_zero, List.set_cons_succ]))
  (refine wpAnyS_takeL (i := 9) (v := ?_) rfl (by kernel_rfl) (by kernel_rfl) (by kernel_rfl) (by kernel_rfl) (by kernel_rfl) (by kernel_rfl) (fun _ _ _ h => h) (Or.inl ⟨by rfl, ?_⟩) hHeld ?_; rotate_left 1; (focus (intro w' hSw; (try dsimp only at hSw); go_simp; (try with_reducible rfl))); (try simp only [Act.put, List.setIfInBounds_toArray, List.set_cons_zero, List.set_cons_succ]))
  (refine wpAnyS_takeL (i := 10) (v := ?_) rfl (by kernel_rfl) (by kernel_rfl) (by kernel_rfl) (by kernel_rfl) (by kernel_rfl) (by kernel_rfl) (fun _ _ _ h => h) (Or.inl ⟨by rfl, ?_⟩) hHeld ?_; rotate_left 1; (focus (intro w' hSw; (try dsimp only at hSw); go_simp; (try with_reducible rfl))); (try simp only [Act.put, List.setIfInBounds_toArray, List.set_cons_zero, List.set_cons_succ]))
  (refine wpAnyS_takeL (i := 11) (v := ?_) rfl (by kernel_rfl) (by kernel_rfl) (by kernel_rfl) (by kernel_rfl) (by kernel_rfl) (by kernel_rfl) (fun _ _ _ h => h) (Or.inl ⟨by rfl, ?_⟩) hHeld ?_; rotate_left 1; (focus (intro w' hSw; (try dsimp only at hSw); go_simp; (try with_reducible rfl))); (try simp only [Act.put, List.setIfInBounds_toArray, List.set_cons_zero, List.set_cons_succ]))
  (refine wpAnyS_takeL (i := 13) (v := ?_) rfl (by kernel_rfl) (by kernel_rfl) (by kernel_rfl) (by kernel_rfl) (by kernel_rfl) (by kernel_rfl) (fun _ _ _ h => h) (Or.inl ⟨by rfl, ?_⟩) hHeld ?_; rotate_left 1; (focus (intro w' hSw; (try dsimp only at hSw); go_simp; (try with_reducible rfl))); (try simp only [Act.put, List.setIfInBounds_toArray, List.set_cons_zero, List.set_cons_succ]))
  (refine wpAnyS_takeL (i := 14) (v := ?_) rfl (by kernel_rfl) (by kernel_rfl) (by kernel_rfl) (by kernel_rfl) (by kernel_rfl) (by kernel_rfl) (fun _ _ _ h => h) (Or.inl ⟨by rfl, ?_⟩) hHeld ?_; rotate_left 1; (focus (intro w' hSw; (try dsimp only at hSw); go_simp; (try with_reducible rfl))); (try simp only [Act.put, List.setIfInBounds_toArray, List.set_cons_zero, List.set_cons_succ]))
  (refine wpAnyS_takeL (i := 15) (v := ?_) rfl (by kernel_rfl) (by kernel_rfl) (by kernel_rfl) (by kernel_rfl) (by kernel_rfl) (by kernel_rfl) (fun _ _ _ h => h) (Or.inl ⟨by rfl, ?_⟩) hHeld ?_; rotate_left 1; (focus (intro w' hSw; (try dsimp only at hSw); go_simp; (try with_reducible rfl))); (try simp only [Act.put, List.setIfInBounds_toArray, List.set_cons_zero, List.set_cons_succ]))
  (refine wpAnyS_takeL (i := 16) (v := ?_) rfl (by kernel_rfl) (by kernel_rfl) (by kernel_rfl) (by kernel_rfl) (by kernel_rfl) (by kernel_rfl) (fun _ _ _ h => h) (Or.inl ⟨by rfl, ?_⟩) hHeld ?_; rotate_left 1; (focus (intro w' hSw; (try dsimp only at hSw); go_simp; (try with_reducible rfl))); (try simp only [Act.put, List.setIfInBounds_toArray, List.set_cons_zero, List.set_cons_succ]))
  clear c0 c1 c2 c3 c4 c5 c6 c7 c8 c9 c10
  (refine wpAnyS_ready (rs := [12]) (by kernel_rfl) (by simp) ?_; refine AllS.consL rfl (fun K hK => ?_) AllS.nil)
  (go_simp; go_at_call 38; refine (clone_any vr r _ hs.drew.q0 (by omega)).mono ?_; rintro e w' ⟨v2, rfl, hk⟩; go_wp2_with fail)
  obtain ⟨vo, vc, rfl, _⟩ := id hk.sl0
  have hs5 := hs.drew.call1 hk
  (refine hK.out _ _ ?_ (fun hHeld => ?_); (focus ((try dsimp only); exact hrow_cells hs5.tail)); clear hK K; (try simp only [Act.put, List.setIfInBounds_toArray, List.set_cons_zero, List.set_cons_succ]))
  (refine wpAnyS_takeL (i := 17) (v := ?_) rfl (by kernel_rfl) (by kernel_rfl) (by kernel_rfl) (by kernel_rfl) (by kernel_rfl) (by kernel_rfl) (fun _ _ _ h => h) (Or.inl ⟨by rfl, ?_⟩) hHeld ?_; rotate_left 1; (focus (intro w' hSw; (try dsimp only at hSw); go_simp; (try with_reducible rfl))); (try simp only [Act.put, List.setIfInBounds_toArray, List.set_cons_zero, List.set_cons_succ]))
  (refine wpAnyS_ready (rs := [18]) (by kernel_rfl) (by simp) ?_; refine AllS.consL rfl (fun K hK => ?_) AllS.nil)
  go_simp
  (refine hK.out _ _ ?_ (fun hHeld => ?_); (focus ((try dsimp only); exact hrow_cells (hs5.tail.alloc _))); clear hK K; (try simp only [Act.put, List.setIfInBounds_toArray, List.set_cons_zero, List.set_cons_succ]))
  (refine wpAnyS_seq (by rfl) (by kernel_rfl) ?_; simp only [List.drop_succ_cons, List.drop_zero])
  go_wp2_with fail
  go_ret
  have hs6 := (hs5.madeAt (hrow g gc s (.slice vo r.length vc) n).xs.toArray 88 11 1 _ (by simp [u32s_len, S8.lst_len]) (by simp [maxLen]) rfl)
  have hs7 := hs6.swap.freeze
  exact ⟨_, _, rfl, hs7⟩
end Go.Proofs.YtlfdnlomlbbicaaDoor
