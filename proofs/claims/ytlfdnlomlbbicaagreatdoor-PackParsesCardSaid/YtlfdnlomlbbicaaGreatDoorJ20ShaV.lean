/- Walks of bytes.Clone and the hasher's Write, Len, Copy. Walk of the hasher's Copy. -/
import Derived.Test.YtlfdnlomlbbicaaGreatDoorJ17ObjS
import Derived.Test.YtlfdnlomlbbicaaGreatDoorShaM
import Derived.Test.YtlfdnlomlbbicaaGreatDoorJ4Lib3
import Derived.Test.YtlfdnlomlbbicaaGreatDoorJ6Held
import Derived.Lib.LazyBuf
namespace Go.Mx
open Go Go.RowKit
theorem sub_head (a b : Rd) (Q : List Rd) : ∀ q ∈ a :: Q, q ∈ a :: b :: Q := by
  intro q hq
  rcases List.mem_cons.1 hq with rfl | hq
  · exact List.mem_cons_self ..
  · exact List.mem_cons_of_mem _ (List.mem_cons_of_mem _ hq)
/-- A slice that is read, cut. -/
theorem St.cutQ {P : Program} {w0 w : World} {R : List Row} {Q : List Rd} {t e : TypeId} {bytes : Nat} (E : El P t e 1 bytes) {V : Value} {X : List UInt8} (h : St w0 w R (⟨V, 1, X.length, bs X⟩ :: Q)) {k : Nat} (hk : k ≤ X.length) :
    ∃ xo xc, (∀ w', (Instr.sliceAt t V (some (.int .i64 (k : Int))) none none).run P w' = .ok (.slice xo (X.length - k) xc) w') ∧ St w0 w R (⟨.slice xo (X.length - k) xc, 1, (X.drop k).length, bs (X.drop k)⟩ :: Q) := by
  have hV := h.q0
  obtain ⟨ao, cap, rfl, h1, _⟩ := id hV
  refine ⟨_, _, fun w' => run_slice_sl E h1 (some (.int .i64 (k : Int))) none k X.length (.inr ⟨_, rfl⟩) (.inl ⟨rfl, rfl⟩) hk (Nat.le_refl _), ?_⟩
  have hc := hV.cut hk (Nat.le_refl _)
  refine ⟨h.below, h.own, h.sep, fun q hq => ?_, fun q hq r hr hne b hb => ?_⟩
  · rcases List.mem_cons.1 hq with rfl | hq
    · have e1 : ((bs X).take (X.length * 1)).drop (k * 1) = bs (X.drop k) := by rw [bs_cut, List.take_length]
      rw [e1] at hc
      rw [List.length_drop]
      exact hc
    · exact h.rd q (List.mem_cons_of_mem _ hq)
  · rcases List.mem_cons.1 hq with rfl | hq
    · have hX : bs X ≠ [] := by
        intro hx
        refine hne ?_
        have hX : X = [] := by simpa [bs] using hx
        subst hX; simp [bs]
      have := h.apart ⟨.slice ao X.length cap, 1, X.length, bs X⟩ (List.mem_cons_self ..) r hr hX b hb
      intro hx
      refine this ?_
      simp only [] at hx ⊢
      cases ao with
      | none => split at hx <;> simp [Value.ownBlock] at hx
      | some a =>
        split at hx
        · exact hx
        · simp [Value.ownBlock, Addr.add_block] at hx ⊢
          exact hx
    · exact h.apart q (List.mem_cons_of_mem _ hq) r hr hne b hb
end Go.Mx
namespace Go.Proofs.YtlfdnlomlbbicaaGreatDoor
open Go.RowKit Go.Mx


def lenRest (w : World) (g : Nat) : Nat := match w.cell? ⟨g, 9, none⟩ with | some (.slice _ n _) => n | _ => 0
theorem lenRest_eq' {w0 w : World} {R : List Row} {Q : List Rd} {g gc : Nat} {s : S8} {ao : Option Addr} {n c : Nat} {z : Int} (hs : St w0 w (hrow g gc s (.slice ao n c) z :: R) Q) : lenRest w g = n := by
  have c0 : w.cell? ⟨g, 9, none⟩ = some (.slice ao n c) := hs.rcell (List.mem_cons_self ..) rfl
  unfold lenRest
  rw [c0]
theorem lenRest_eq {w0 w : World} {R : List Row} {Q : List Rd} {g gc : Nat} {s : S8} {ao : Option Addr} {n c : Nat} {z : Int} (hs : St w0 w (hrow g gc s (.slice ao n c) z :: R) Q) : lenRest w g = n := lenRest_eq' hs
theorem cutT8 {w : World} {v : Value} {l : List UInt8} (h : Sl w 1 v l.length (bs l)) (hi : 64 ≤ l.length) :
    ∃ xo xc, (∀ w', (Instr.sliceAt 25 v none (some (.int .i64 64)) none).run Tryz.prog w' = .ok (.slice xo 64 xc) w') ∧ ∀ w', Sl w' 1 v l.length (bs l) → Sl w' 1 (.slice xo 64 xc) 64 (bs (l.take 64)) := by
  obtain ⟨x, p, q⟩ := h.cutRun Tryz.elU8 none (some (.int .i64 64)) 0 64 (.inl ⟨rfl, rfl⟩) (.inr ⟨.i64, rfl⟩) (Nat.zero_le _) hi
  have q' : ∀ w', Sl w' 1 v l.length (bs l) → Sl w' 1 x 64 (bs (l.take 64)) := fun w' h' => by
    have := Sl.cutB (q _ h') hi (Nat.zero_le _)
    rw [List.drop_zero, show (l.take 64).length = 64 by rw [List.length_take]; omega] at this
    exact this
  obtain ⟨xo, xc, rfl, _⟩ := q' _ h
  exact ⟨xo, xc, p, q'⟩

def WritePost (w0 : World) (R : List Row) (Q : List Rd) (g gc : Nat) (s : S8) (n : Int) (m : List UInt8) (e : Ending) (w' : World) : Prop :=
  ∃ v, e = .returned (.tuple #[]) ∧ St w0 w' (hrow g gc (eatS s m) v n :: R) (⟨v, 1, (eatR m).length, bs (eatR m)⟩ :: Q)

set_option maxRecDepth 100000 in
set_option maxHeartbeats 2000000 in
theorem write_anyE (w0 w : World) (R : List Row) (Q : List Rd) (g gc : Nat) (s : S8) (vr vb : Value) (n : Nat) (r b : List UInt8) (hs : St w0 w (hrow g gc s vr n :: R) (⟨vr, 1, r.length, bs r⟩ :: Q)) (hq : cq gc ∈ Q) (hb : (⟨vb, 1, b.length, bs b⟩ : Rd) ∈ Q ∨ (⟨vb, 5, 1, b.length, bs b⟩ : Row) ∈ R) (hrl : r.length ≤ 4096) (hbl : b.length ≤ 140737488351232) (hn : n ≤ 140737488351232) :
    Calls Tryz.prog 37 #[.pointer (some ⟨g, 0, none⟩), vb] w (WritePost w0 R Q g gc s ((n + b.length : Nat) : Int) (r ++ b)) := by
  obtain ⟨ro, rc, rfl, _⟩ := id hs.q0
  have hb0 : Sl w 1 vb b.length (bs b) := hb.elim (fun h => hs.rd _ (List.mem_cons_of_mem _ h)) (fun h => hs.sl (List.mem_cons_of_mem _ h))
  obtain ⟨bo, bc, rfl, _⟩ := hb0
  have cn : w.cell? ⟨g, 10, none⟩ = some (.int .i64 (n : Int)) := hs.rcell (List.mem_cons_self ..) rfl
  have hsum : (n : Int) + (b.length : Int) = ((n + b.length : Nat) : Int) := by push_cast; rfl
  have hNl : n + b.length ≤ 281474976702464 := by omega
  generalize n + b.length = N at *
  go_enter Tryz.func37, Tryz.ntmps37
  have hNcast : ∀ w1, St w0 w1 (⟨.slice (some ⟨g, 0, none⟩) 1 1, 121, 11, 1, (hrow g gc s (.slice ro r.length rc) n).xs.take 10 ++ [.int .i64 (N : Int)] ++ (hrow g gc s (.slice ro r.length rc) n).xs.drop (10 + 1)⟩ :: R) (⟨.slice ro r.length rc, 1, r.length, bs r⟩ :: Q) → St w0 w1 (hrow g gc s (.slice ro r.length rc) N :: R) (⟨.slice ro r.length rc, 1, r.length, bs r⟩ :: Q) := fun _ h => h
  have HNC := Mx.hid hNcast
  clear hNcast
  go_wp2_with (((with_reducible show wpList _ _ _ _ _ _); refine wpl_store1 rfl 3 _ _ rfl hs (10) rfl (.int .i64 (N : Int)) rfl rfl (by kernel_rfl) (by simp [u32s_len, S8.lst_len]) rfl ?_; intro w1 hs1); have hs2 := HNC.out _ hs1; have cr : w1.cell? ⟨g, 9, none⟩ = some (.slice ro r.length rc) := hs2.rcell (List.mem_cons_self ..) rfl; clear hs1 HNC)
  clear hsum cn
  refine (clone_any _ r w1 hs2.q0 (by omega)).mono ?_
  rintro e w2 ⟨v2, rfl, hk⟩
  have hs3 := hs2.call1 hk
  have hb3 : Sl w2 1 (.slice bo b.length bc) b.length (bs b) := hb.elim (fun h => hs3.rd _ (List.mem_cons_of_mem _ h)) (fun h => hs3.sl (List.mem_cons_of_mem _ (List.mem_cons_of_mem _ h)))
  clear cr
  have hXl : r.length + b.length = (r ++ b).length := by rw [List.length_append]
  have hXb : bs r ++ bs b = bs (r ++ b) := by rw [bs_app]
  have HX := Mx.hid (And.intro hXl hXb)
  have hXle : (r ++ b).length ≤ 140737488355328 := by rw [List.length_append]; omega
  clear hXl hXb
  generalize hXX : r ++ b = X at *
  clear hXX
  go_wp2_with (first | (at_builtin; refine wpl_app rfl _ _ 25 rfl Tryz.elU8 hs3 rfl (by exact hb3) (bs_one _) (by omega) ?_; intro v3 w3 hs4 _; have hs5 := hs4.cast HX.out.1 HX.out.2; clear hs4; obtain ⟨xo, xc, rfl, _⟩ := id hs5.sl0; have hs6 := hs5.freeze.sub (R' := hrow g gc s (.slice ro r.length rc) N :: R) (Q' := ⟨.slice xo X.length xc, 1, X.length, bs X⟩ :: Q) (List.Sublist.refl _) (sub_head _ _ _)) | ((with_reducible show wpList _ _ _ _ _ _); refine wpl_store1 rfl 25 _ _ rfl hs6 (9) rfl (.slice xo X.length xc) rfl rfl (by kernel_rfl) (by simp [u32s_len, S8.lst_len]) rfl ?_; intro w4 hs7))
  have hs8 : St w0 w4 (hrow g gc s (.slice xo X.length xc) N :: R) (⟨.slice xo X.length xc, 1, X.length, bs X⟩ :: Q) := hs7
  have hl0 := lenRest_eq hs8
  have HQ := Mx.hid hq
  have HBQ := Mx.hid hb
  clear hs7 hs3 hs2 hq hb hb3 hk HX
  simp only [Act.put]
  go_loopw [23] (fun _ wr => ∃ (s' : S8) (l : List UInt8) (v : Value), Hid (eatS s X = eatS s' l ∧ eatR X = eatR l) ∧ Hid (l.length = lenRest wr g) ∧ l.length ≤ X.length ∧ St w0 wr (hrow g gc s' v N :: R) (⟨v, 1, l.length, bs l⟩ :: Q)) (fun _ wr => lenRest wr g)
  case atStart => exact ⟨s, X, _, ⟨rfl, rfl⟩, Mx.hid hl0.symm, Nat.le_refl _, hs8⟩
  case round =>
    clear hs8 hl0
    obtain ⟨s', l, v, He, hll, hlX, hs⟩ := hrel
    obtain ⟨yo, yc, rfl, _⟩ := id hs.q0
    have cr : wr.cell? ⟨g, 9, none⟩ = some (.slice yo l.length yc) := hs.rcell (List.mem_cons_self ..) rfl
    by_cases h64 : 64 ≤ l.length
    · have h64' : (64 : Int) ≤ (l.length : Int) := by omega
      obtain ⟨to, tc, pt, qt⟩ := cutT8 hs.q0 h64
      have ht := qt _ hs.q0
      have hst := eatS_step s' h64
      have hrt := eatR_step h64
      have HST := Mx.hid (And.intro hst hrt)
      clear hst hrt qt
      go_wp2_with fail
      refine (mix_any w0 wr R _ g gc s' _ N _ (l.take 64) hs (List.mem_cons_of_mem _ HQ.out) ht (by rw [List.length_take]; omega)).mono ?_
      rintro e w5 ⟨rfl, hs5⟩
      obtain ⟨zo, zc, pz, hs6⟩ := hs5.cutQ Tryz.elU8 h64
      have cr5 : w5.cell? ⟨g, 9, none⟩ = some (.slice yo l.length yc) := hs5.rcell (List.mem_cons_self ..) rfl
      have pz : ∀ w', (Instr.sliceAt 25 (.slice yo l.length yc) (some (.int .i64 64)) none none).run Tryz.prog w' = .ok (.slice zo (l.length - 64) zc) w' := pz
      clear cr pt
      go_wp2_with (((with_reducible show wpList _ _ _ _ _ _); refine wpl_store1 rfl 25 _ _ rfl hs6 (9) rfl (.slice zo (l.length - 64) zc) rfl rfl (by kernel_rfl) (by simp [u32s_len, S8.lst_len]) rfl ?_; intro w6 hs7))
      have hs8 : St w0 w6 (hrow g gc (comp s' (l.take 64)) (.slice zo (l.length - 64) zc) N :: R) (⟨.slice zo (l.length - 64) zc, 1, (l.drop 64).length, bs (l.drop 64)⟩ :: Q) := hs7
      have HL8 := Mx.hid (lenRest_eq' hs8)
      simp only [Act.put]
      go_roundw
      case rel => exact ⟨_, l.drop 64, _, Mx.hid ⟨He.out.1.trans HST.out.1, He.out.2.trans HST.out.2⟩, Mx.hid (by rw [HL8.out, List.length_drop]), by rw [List.length_drop]; omega, hs8⟩
      case measure => have := hll.out; have := HL8.out; omega
    · have h64' : ¬ ((64 : Int) ≤ (l.length : Int)) := by omega
      have HE := Mx.hid (And.intro (He.out.1.trans (eatS_small s' (by omega))) (He.out.2.trans (eatR_small (by omega))))
      clear h64
      go_wp2_with fail
      go_end0
      unfold WritePost
      rw [HE.out.1, HE.out.2]
      exact ⟨_, rfl, hs⟩
theorem write_any (w0 w : World) (R : List Row) (Q : List Rd) (g gc : Nat) (s : S8) (vr vb : Value) (n : Nat) (r b : List UInt8) (hs : St w0 w (hrow g gc s vr n :: R) (⟨vr, 1, r.length, bs r⟩ :: Q)) (hq : cq gc ∈ Q) (hb : (⟨vb, 1, b.length, bs b⟩ : Rd) ∈ Q) (hrl : r.length ≤ 4096) (hbl : b.length ≤ 140737488351232) (hn : n ≤ 140737488351232) :
    Calls Tryz.prog 37 #[.pointer (some ⟨g, 0, none⟩), vb] w (WritePost w0 R Q g gc s ((n + b.length : Nat) : Int) (r ++ b)) :=
  write_anyE w0 w R Q g gc s vr vb n r b hs hq (.inl hb) hrl hbl hn
end Go.Proofs.YtlfdnlomlbbicaaGreatDoor

namespace Go.Proofs.YtlfdnlomlbbicaaGreatDoor
open Go.RowKit Go.Mx

theorem hrow_cells {w0 w : World} {R : List Row} {Q : List Rd} {g gc : Nat} {s : S8} {vr : Value} {n : Int} (hs : St w0 w (hrow g gc s vr n :: R) Q) : w.cell? ⟨g, 0, none⟩ = some (.pointer (some ⟨gc, 0, none⟩)) ∧ w.cell? ⟨g, 1, none⟩ = some (.int .u32 (s.a.toNat : Int)) ∧ w.cell? ⟨g, 2, none⟩ = some (.int .u32 (s.b.toNat : Int)) ∧ w.cell? ⟨g, 3, none⟩ = some (.int .u32 (s.c.toNat : Int)) ∧ w.cell? ⟨g, 4, none⟩ = some (.int .u32 (s.d.toNat : Int)) ∧ w.cell? ⟨g, 5, none⟩ = some (.int .u32 (s.e.toNat : Int)) ∧ w.cell? ⟨g, 6, none⟩ = some (.int .u32 (s.f.toNat : Int)) ∧ w.cell? ⟨g, 7, none⟩ = some (.int .u32 (s.g.toNat : Int)) ∧ w.cell? ⟨g, 8, none⟩ = some (.int .u32 (s.h.toNat : Int)) ∧ w.cell? ⟨g, 9, none⟩ = some vr ∧ w.cell? ⟨g, 10, none⟩ = some (.int .i64 n) := by
  refine ⟨?_, ?_, ?_, ?_, ?_, ?_, ?_, ?_, ?_, ?_, ?_⟩ <;> exact hs.rcell (List.mem_cons_self ..) rfl

def CopyPost (w0 : World) (R : List Row) (Q : List Rd) (g gc : Nat) (s : S8) (vr : Value) (n : Int) (r : List UInt8) (e : Ending) (w' : World) : Prop :=
  ∃ g' v', e = .returned (.pointer (some ⟨g', 0, none⟩)) ∧ St w0 w' (hrow g' gc s v' n :: hrow g gc s vr n :: R) (⟨v', 1, r.length, bs r⟩ :: ⟨vr, 1, r.length, bs r⟩ :: Q)

set_option maxRecDepth 100000 in
set_option maxHeartbeats 4000000 in
theorem copy_any (w0 w : World) (R : List Row) (Q : List Rd) (g gc : Nat) (s : S8) (vr : Value) (n : Int) (r : List UInt8) (hs : St w0 w (hrow g gc s vr n :: R) (⟨vr, 1, r.length, bs r⟩ :: Q)) (hrl : r.length ≤ 4096) :
    Calls Tryz.prog 61 #[.pointer (some ⟨g, 0, none⟩)] w (CopyPost w0 R Q g gc s vr n r) := by
  obtain ⟨ro, rc, rfl, _⟩ := id hs.q0
  obtain ⟨c0, c1, c2, c3, c4, c5, c6, c7, c8, c9, c10⟩ := hrow_cells hs
  go_enter Tryz.func61, Tryz.ntmps61
  go_wp2_with fail
  generalize hvr : Value.slice ro r.length rc = vr at *
  (refine wp_region_S (19) (fun W' => W'.cell? ⟨g, 0, none⟩ = some (.pointer (some ⟨gc, 0, none⟩)) ∧ W'.cell? ⟨g, 1, none⟩ = some (.int .u32 (s.a.toNat : Int)) ∧ W'.cell? ⟨g, 2, none⟩ = some (.int .u32 (s.b.toNat : Int)) ∧ W'.cell? ⟨g, 3, none⟩ = some (.int .u32 (s.c.toNat : Int)) ∧ W'.cell? ⟨g, 4, none⟩ = some (.int .u32 (s.d.toNat : Int)) ∧ W'.cell? ⟨g, 5, none⟩ = some (.int .u32 (s.e.toNat : Int)) ∧ W'.cell? ⟨g, 6, none⟩ = some (.int .u32 (s.f.toNat : Int)) ∧ W'.cell? ⟨g, 7, none⟩ = some (.int .u32 (s.g.toNat : Int)) ∧ W'.cell? ⟨g, 8, none⟩ = some (.int .u32 (s.h.toNat : Int)) ∧ W'.cell? ⟨g, 9, none⟩ = some vr ∧ W'.cell? ⟨g, 10, none⟩ = some (.int .i64 n)) (by kernel_rfl) ?_ (fun hHeld => ?_); (focus ((try dsimp only); exact hrow_cells hs.drew)))
  (refine wpAnyS_takeL (i := 0) (v := ?_) rfl (by kernel_rfl) (by kernel_rfl) (by kernel_rfl) (by kernel_rfl) (by kernel_rfl) (by kernel_rfl) (fun _ _ _ h => h) (Or.inl ⟨by rfl, ?_⟩) hHeld ?_; rotate_left 1; (focus (intro w' hSw; (try dsimp only at hSw); go_simp; (try with_reducible rfl))); (try simp only [Act.put, List.setIfInBounds_toArray, List.set_cons_zero, List.set_cons_succ]))
  (refine wpAnyS_takeL (i := 1) (v := ?_) rfl (by kernel_rfl) (by kernel_rfl) (by kernel_rfl) (by kernel_rfl) (by kernel_rfl) (by kernel_rfl) (fun _ _ _ h => h) (Or.inl ⟨by rfl, ?_⟩) hHeld ?_; rotate_left 1; (focus (intro w' hSw; (try dsimp only at hSw); go_simp; (try with_reducible rfl))); (try simp only [Act.put, List.setIfInBounds_toArray, List.set_cons_zero, List.set_cons_succ]))
  (refine wpAnyS_takeL (i := 2) (v := ?_) rfl (by kernel_rfl) (by kernel_rfl) (by kernel_rfl) (by kernel_rfl) (by kernel_rfl) (by kernel_rfl) (fun _ _ _ h => h) (Or.inl ⟨by rfl, ?_⟩) hHeld ?_; rotate_left 1; (focus (intro w' hSw; (try dsimp only at hSw); go_simp; (try with_reducible rfl))); (try simp only [Act.put, List.setIfInBounds_toArray, List.set_cons_zero, List.set_cons_succ]))
  (refine wpAnyS_takeL (i := 3) (v := ?_) rfl (by kernel_rfl) (by kernel_rfl) (by kernel_rfl) (by kernel_rfl) (by kernel_rfl) (by kernel_rfl) (fun _ _ _ h => h) (Or.inl ⟨by rfl, ?_⟩) hHeld ?_; rotate_left 1; (focus (intro w' hSw; (try dsimp only at hSw); go_simp; (try with_reducible rfl))); (try simp only [Act.put, List.setIfInBounds_toArray, List.set_cons_zero, List.set_cons_succ]))
  (refine wpAnyS_takeL (i := 4) (v := ?_) rfl (by kernel_rfl) (by kernel_rfl) (by kernel_rfl) (by kernel_rfl) (by kernel_rfl) (by kernel_rfl) (fun _ _ _ h => h) (Or.inl ⟨by rfl, ?_⟩) hHeld ?_; rotate_left 1; (focus (intro w' hSw; (try dsimp only at hSw); go_simp; (try with_reducible rfl))); (try simp only [Act.put, List.setIfInBounds_toArray, List.set_cons_zero, List.set_cons_succ]))
  (refine wpAnyS_takeL (i := 5) (v := ?_) rfl (by kernel_rfl) (by kernel_rfl) (by kernel_rfl) (by kernel_rfl) (by kernel_rfl) (by kernel_rfl) (fun _ _ _ h => h) (Or.inl ⟨by rfl, ?_⟩) hHeld ?_; rotate_left 1; (focus (intro w' hSw; (try dsimp only at hSw); go_simp; (try with_reducible rfl))); (try simp only [Act.put, List.setIfInBounds_toArray, List.set_cons_zero, List.set_cons_succ]))
  (refine wpAnyS_takeL (i := 6) (v := ?_) rfl (by kernel_rfl) (by kernel_rfl) (by kernel_rfl) (by kernel_rfl) (by kernel_rfl) (by kernel_rfl) (fun _ _ _ h => h) (Or.inl ⟨by rfl, ?_⟩) hHeld ?_; rotate_left 1; (focus (intro w' hSw; (try dsimp only at hSw); go_simp; (try with_reducible rfl))); (try simp only [Act.put, List.setIfInBounds_toArray, List.set_cons_zero, List.set_cons_succ]))
  (refine wpAnyS_takeL (i := 7) (v := ?_) rfl (by kernel_rfl) (by kernel_rfl) (by kernel_rfl) (by kernel_rfl) (by kernel_rfl) (by kernel_rfl) (fun _ _ _ h => h) (Or.inl ⟨by rfl, ?_⟩) hHeld ?_; rotate_left 1; (focus (intro w' hSw; (try dsimp only at hSw); go_simp; (try with_reducible rfl))); (try simp only [Act.put, List.setIfInBounds_toArray, List.set_cons_zero, List.set_cons_succ]))
  (refine wpAnyS_takeL (i := 8) (v := ?_) rfl (by kernel_rfl) (by kernel_rfl) (by kernel_rfl) (by kernel_rfl) (by kernel_rfl) (by kernel_rfl) (fun _ _ _ h => h) (Or.inl ⟨by rfl, ?_⟩) hHeld ?_; rotate_left 1; (focus (intro w' hSw; (try dsimp only at hSw); go_simp; (try with_reducible rfl))); (try simp only [Act.put, List.setIfInBounds_toArray, List.set_cons_zero, List.set_cons_succ]))
  (refine wpAnyS_takeL (i := 9) (v := ?_) rfl (by kernel_rfl) (by kernel_rfl) (by kernel_rfl) (by kernel_rfl) (by kernel_rfl) (by kernel_rfl) (fun _ _ _ h => h) (Or.inl ⟨by rfl, ?_⟩) hHeld ?_; rotate_left 1; (focus (intro w' hSw; (try dsimp only at hSw); go_simp; (try with_reducible rfl))); (try simp only [Act.put, List.setIfInBounds_toArray, List.set_cons_zero, List.set_cons_succ]))
  (refine wpAnyS_takeL (i := 10) (v := ?_) rfl (by kernel_rfl) (by kernel_rfl) (by kernel_rfl) (by kernel_rfl) (by kernel_rfl) (by kernel_rfl) (fun _ _ _ h => h) (Or.inl ⟨by rfl, ?_⟩) hHeld ?_; rotate_left 1; (focus (intro w' hSw; (try dsimp only at hSw); go_simp; (try with_reducible rfl))); (try simp only [Act.put, List.setIfInBounds_toArray, List.set_cons_zero, List.set_cons_succ]))
  (refine wpAnyS_takeL (i := 11) (v := ?_) rfl (by kernel_rfl) (by kernel_rfl) (by kernel_rfl) (by kernel_rfl) (by kernel_rfl) (by kernel_rfl) (fun _ _ _ h => h) (Or.inl ⟨by rfl, ?_⟩) hHeld ?_; rotate_left 1; (focus (intro w' hSw; (try dsimp only at hSw); go_simp; (try with_reducible rfl))); (try simp only [Act.put, List.setIfInBounds_toArray, List.set_cons_zero, List.set_cons_succ]))
  (refine wpAnyS_takeL (i := 13) (v := ?_) rfl (by kernel_rfl) (by kernel_rfl) (by kernel_rfl) (by kernel_rfl) (by kernel_rfl) (by kernel_rfl) (fun _ _ _ h => h) (Or.inl ⟨by rfl, ?_⟩) hHeld ?_; rotate_left 1; (focus (intro w' hSw; (try dsimp only at hSw); go_simp; (try with_reducible rfl))); (try simp only [Act.put, List.setIfInBounds_toArray, List.set_cons_zero, List.set_cons_succ]))
  (refine wpAnyS_takeL (i := 14) (v := ?_) rfl (by kernel_rfl) (by kernel_rfl) (by kernel_rfl) (by kernel_rfl) (by kernel_rfl) (by kernel_rfl) (fun _ _ _ h => h) (Or.inl ⟨by rfl, ?_⟩) hHeld ?_; rotate_left 1; (focus (intro w' hSw; (try dsimp only at hSw); go_simp; (try with_reducible rfl))); (try simp only [Act.put, List.setIfInBounds_toArray, List.set_cons_zero, List.set_cons_succ]))
  (refine wpAnyS_takeL (i := 15) (v := ?_) rfl (by kernel_rfl) (by kernel_rfl) (by kernel_rfl) (by kernel_rfl) (by kernel_rfl) (by kernel_rfl) (fun _ _ _ h => h) (Or.inl ⟨by rfl, ?_⟩) hHeld ?_; rotate_left 1; (focus (intro w' hSw; (try dsimp only at hSw); go_simp; (try with_reducible rfl))); (try simp only [Act.put, List.setIfInBounds_toArray, List.set_cons_zero, List.set_cons_succ]))
  (refine wpAnyS_takeL (i := 16) (v := ?_) rfl (by kernel_rfl) (by kernel_rfl) (by kernel_rfl) (by kernel_rfl) (by kernel_rfl) (by kernel_rfl) (fun _ _ _ h => h) (Or.inl ⟨by rfl, ?_⟩) hHeld ?_; rotate_left 1; (focus (intro w' hSw; (try dsimp only at hSw); go_simp; (try with_reducible rfl))); (try simp only [Act.put, List.setIfInBounds_toArray, List.set_cons_zero, List.set_cons_succ]))
  clear c0 c1 c2 c3 c4 c5 c6 c7 c8 c9 c10
  (refine wpAnyS_ready (rs := [12]) (by kernel_rfl) (by simp) ?_; refine AllS.consL rfl (fun K hK => ?_) AllS.nil)
  (go_simp; go_at_call 59; refine (clone_any vr r _ hs.drew.q0 (by omega)).mono ?_; rintro e w' ⟨v2, rfl, hk⟩; go_wp2_with fail)
  obtain ⟨vo, vc, rfl, _⟩ := id hk.sl0
  have hs5 := hs.drew.call1 hk
  (refine hK.out _ _ ?_ (fun hHeld => ?_); (focus ((try dsimp only); exact hrow_cells hs5.tail)); clear hK K; (try simp only [Act.put, List.setIfInBounds_toArray, List.set_cons_zero, List.set_cons_succ]))
  (refine wpAnyS_takeL (i := 17) (v := ?_) rfl (by kernel_rfl) (by kernel_rfl) (by kernel_rfl) (by kernel_rfl) (by kernel_rfl) (by kernel_rfl) (fun _ _ _ h => h) (Or.inl ⟨by rfl, ?_⟩) hHeld ?_; rotate_left 1; (focus (intro w' hSw; (try dsimp only at hSw); go_simp; (try with_reducible rfl))); (try simp only [Act.put, List.setIfInBounds_toArray, List.set_cons_zero, List.set_cons_succ]))
  (refine wpAnyS_ready (rs := [18]) (by kernel_rfl) (by simp) ?_; refine AllS.consL rfl (fun K hK => ?_) AllS.nil)
  go_simp
  (refine hK.out _ _ ?_ (fun hHeld => ?_); (focus ((try dsimp only); exact hrow_cells (hs5.tail.alloc _))); clear hK K; (try simp only [Act.put, List.setIfInBounds_toArray, List.set_cons_zero, List.set_cons_succ]))
  (refine wpAnyS_seq (by rfl) (by kernel_rfl) ?_; simp only [List.drop_succ_cons, List.drop_zero])
  go_wp2_with fail
  go_ret
  have hs6 := (hs5.madeAt (hrow g gc s (.slice vo r.length vc) n).xs.toArray 121 11 1 _ (by simp [u32s_len, S8.lst_len]) (by simp [maxLen]) rfl)
  have hs7 := hs6.swap.freeze
  exact ⟨_, _, rfl, hs7⟩
end Go.Proofs.YtlfdnlomlbbicaaGreatDoor
