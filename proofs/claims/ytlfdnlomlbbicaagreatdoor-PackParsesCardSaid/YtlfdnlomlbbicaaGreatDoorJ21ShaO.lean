/- The walks of sync.Once, entered for the first time by one goroutine, and of New. Lists of rows: one brought to the head, and set back; make([]T, n) with a known zero. -/
import Derived.Test.YtlfdnlomlbbicaaGreatDoorShaT
import Derived.Tactics2
import Derived.Defers
import Derived.Laws.Pointers
import Derived.Laws.LoneSync
import Derived.Laws.NewBlocks
import Derived.RegionTactic
import Derived.RegionCalls
import Derived.ChangeAlike
import Derived.Test.YtlfdnlomlbbicaaGreatDoorJ4Lib3
namespace Go.Mx
open Go Go.RowKit
/-- A cell of an owned row is not frozen. -/
theorem St.free {w0 w : World} {R : List Row} {Q : List Rd} {g n cap : Nat} {e : TypeId} {size : Nat} {xs : List Value} (h : St w0 w (⟨.slice (some ⟨g, 0, none⟩) n cap, e, size, n, xs⟩ :: R) Q) {j : Nat} (hj : j < xs.length) : w.frozen? ⟨g, j, none⟩ = false := by
  have ho := h.own _ (List.mem_cons_self ..)
  rcases ho.2 with ⟨h2, _⟩ | ⟨g', cap', cur, fr, hv, hb, hg, hfr, hn, hm, hs, htake⟩
  · cases h2
  · obtain ⟨rfl, rfl⟩ : g = g' ∧ cap = cap' := by simp at hv; exact hv
    have hlen := ho.1
    simp only [] at hlen hs hg hn
    have hxl : xs.length ≤ cur.size := by rw [hlen, hs]; exact Nat.mul_le_mul_right _ hn
    have := hfr j (by omega)
    simp only [World.frozen?, hg]
    rw [Bool.and_eq_false_iff, decide_eq_false_iff_not, decide_eq_false_iff_not]
    omega
theorem St.addQnil {w0 w : World} {R : List Row} {Q : List Rd} (h : St w0 w R Q) : St w0 w R (⟨.slice none 0 0, 1, 0, []⟩ :: Q) where
  below := h.below
  own := h.own
  sep := h.sep
  rd q hq := by
    rcases List.mem_cons.1 hq with rfl | hq
    · exact Sl.nil w 1
    · exact h.rd q hq
  apart q hq r hr hne b hb := by
    rcases List.mem_cons.1 hq with rfl | hq
    · exact absurd rfl hne
    · exact h.apart q hq r hr hne b hb
/-- One cell of the head row set. -/
theorem St.setCell {w0 w : World} {R : List Row} {Q : List Rd} {g n cap : Nat} {e : TypeId} {size : Nat} {xs : List Value} (P : Program) (h : St w0 w (⟨.slice (some ⟨g, 0, none⟩) n cap, e, size, n, xs⟩ :: R) Q) (j : Nat) (u : Value) (hj : j < xs.length) (h1 : u.oneCell' = true) :
    St w0 (w.setCell ⟨g, j, none⟩ u) (⟨.slice (some ⟨g, 0, none⟩) n cap, e, size, n, xs.take j ++ [u] ++ xs.drop (j + 1)⟩ :: R) Q := by
  obtain ⟨w', hr, hs⟩ := h.store (P := P) j [u] (by simp; omega) (by intro v hv; simp at hv; subst hv; exact h1)
  have hf := h.free hj
  have hc : w.cell? ⟨g, j, none⟩ = some xs[j] := h.cell (List.getElem?_eq_getElem hj)
  have hst : (storeCells ⟨g, j, none⟩ [u]).run P w = .ok () (w.setCell ⟨g, j, none⟩ u) := by
    have hadd : (⟨g, j, none⟩ : Addr).add 0 = ⟨g, j, none⟩ := rfl
    have h2 : (_root_.Go.store ((⟨g, j, none⟩ : Addr).add 0) u).run P w = .ok () (w.setCell ⟨g, j, none⟩ u) := by
      rw [hadd, run_store P w _ u _ h1, hc]
      simp [hf]
    simp only [storeCells, Sem.run_bind, h2, Result.andThen_ok]
    rfl
  rw [hst] at hr
  cases hr
  exact hs
end Go.Mx
namespace Go.Proofs.YtlfdnlomlbbicaaGreatDoor
open Go.RowKit Go.Mx

theorem disable (w : World) : (callFunc 127 #[]).run Tryz.prog w = .ok (.value (.tuple #[])) w := run_call_mark0 Tryz.func127 (by kernel_rfl) (by kernel_rfl) (by kernel_rfl) .disable (by kernel_rfl) w
theorem enable (w : World) : (callFunc 129 #[]).run Tryz.prog w = .ok (.value (.tuple #[])) w := run_call_mark0 Tryz.func129 (by kernel_rfl) (by kernel_rfl) (by kernel_rfl) .enable (by kernel_rfl) w
theorem acquire (a : Addr) (w : World) : (callFunc 130 #[.pointer (some a)]).run Tryz.prog w = .ok (.value (.tuple #[])) w := run_call_marked Tryz.func130 (by kernel_rfl) (by kernel_rfl) (by kernel_rfl) .acquire (by kernel_rfl) a w
theorem releaseMerge (a : Addr) (w : World) : (callFunc 132 #[.pointer (some a)]).run Tryz.prog w = .ok (.value (.tuple #[])) w := run_call_marked Tryz.func132 (by kernel_rfl) (by kernel_rfl) (by kernel_rfl) .releaseMerge (by kernel_rfl) a w

set_option maxRecDepth 100000 in
theorem store_deferred (a : Addr) (x : Value) (u : FrameMode) (w : World) (hc : w.cell? a = some x) (hz : w.frozen? a = false) :
    CallsD Tryz.prog 112 #[.pointer (some a), .bool true] u w fun e u' w' => u' = u ∧ (e = .returned (.tuple #[]) ∧ w' = w.drew.setCell a (.int .u32 1)) := by
  have hc' : w.drew.cell? a = some x := by go_simp
  have hz' : w.drew.frozen? a = false := by go_simp
  have hst := run_call_store (P := Tryz.prog) Tryz.func123 (by kernel_rfl) (by kernel_rfl) (by kernel_rfl) (by kernel_rfl) (k := .u32) (y := 1) hc' hz'
  go_enter_d Tryz.func112, Tryz.ntmps112
  go_wp2
  go_region_calls
  all_goals (go_end0; exact ⟨rfl, rfl⟩)

set_option maxRecDepth 100000 in
theorem unlock_deferred (a : Addr) (u : FrameMode) (w : World) (hc : w.cell? a = some (.int .i32 1)) (hz : w.frozen? a = false) :
    CallsD Tryz.prog 111 #[.pointer (some a)] u w fun e u' w' => u' = u ∧ (e = .returned (.tuple #[]) ∧ w' = w.setCell a (.int .i32 0)) := by
  have hd := disable
  have he := enable
  have hr := releaseMerge
  have hadd := run_call_add (P := Tryz.prog) Tryz.func133 (by kernel_rfl) (by kernel_rfl) (by kernel_rfl) .i32 (by kernel_rfl) (y := -1) (s := 0) hc hz (by simp [go_sem]; rfl)
  have hcv := run_convert_to_unsafe (P := Tryz.prog) (src := 169) (dst := 173) Tryz.underlying169 Tryz.underlying173 (by kernel_rfl) hc
  have hcv1 := run_convert_to_unsafe (P := Tryz.prog) (src := 163) (dst := 173) Tryz.underlying163 Tryz.underlying173 (by kernel_rfl) hc
  go_enter_d Tryz.func111, Tryz.ntmps111
  go_wp2
  go_end0
  go_wp2
  go_end0
  exact ⟨rfl, rfl⟩

set_option maxRecDepth 100000 in
theorem lock_free (a : Addr) (w : World) (hc : w.cell? a = some (.int .i32 0)) (hz : w.frozen? a = false) :
    Calls Tryz.prog 110 #[.pointer (some a)] w fun e w' => e = .returned (.tuple #[]) ∧ w' = w.setCell a (.int .i32 1) := by
  have hd := disable
  have he := enable
  have ha := acquire
  have hcas := run_call_cas_hit (P := Tryz.prog) Tryz.func128 (by kernel_rfl) (by kernel_rfl) (by kernel_rfl) .i32 (by kernel_rfl) (y := 1) hc hz
  have hc' : (w.setCell a (.int .i32 1)).cell? a = some (.int .i32 1) := World.cell?_setCell_same w a _ hc
  have hcv := run_convert_to_unsafe (P := Tryz.prog) (src := 169) (dst := 173) Tryz.underlying169 Tryz.underlying173 (by kernel_rfl) hc'
  have hcv1 := run_convert_to_unsafe (P := Tryz.prog) (src := 163) (dst := 173) Tryz.underlying163 Tryz.underlying173 (by kernel_rfl) hc'
  go_enter Tryz.func110, Tryz.ntmps110
  go_wp2
  first | go_end0 | (simp only [Exit.inBlock, Exit.then]; refine bodyPost_ret (results_none rfl _ _ _) rfl ?_) | refine bodyPost_ret (results_none rfl _ _ _) rfl ?_
  go_wp2
  go_end0
  exact ⟨rfl, rfl⟩

/-- The constants' variable while it is written. -/
abbrev crow (gc : Nat) (d m : Int) (l : List Value) : Row := ⟨.slice (some ⟨gc, 0, none⟩) 1 1, 118, 75, 1, [.int .u32 d, .int .i32 m, .int .u32 0] ++ l⟩
/-- What the program's text lays into the two variables. -/
structure Laid (w : World) : Prop where
  sq : ∀ i u, (u32s I8.lst)[i]? = some u → w.cell? ⟨1, i, none⟩ = some u
  cu : ∀ i u, (u32s K64)[i]? = some u → w.cell? ⟨2, i, none⟩ = some u
theorem Laid.keep {w0 w : World} {R : List Row} {Q : List Rd} (h : Laid w0) (hs : St w0 w R Q) : Laid w :=
  ⟨fun i u hu => hs.keep (h.sq i u hu), fun i u hu => hs.keep (h.cu i u hu)⟩

set_option maxRecDepth 100000 in
set_option maxHeartbeats 2000000 in
theorem fill_any (w0 w : World) (R : List Row) (Q : List Rd) (gc : Nat) (d m : Int) (hs : St w0 w (crow gc d m (u32s (List.replicate 72 0)) :: R) Q) (hL : Laid w) :
    Calls Tryz.prog 58 #[.pointer (some ⟨gc, 0, none⟩)] w fun e w' => e = .returned (.tuple #[]) ∧ St w0 w' (crow gc d m (u32s I8.lst ++ u32s K64) :: R) Q := by
  have h1 := Mx.hid (u32s_one I8.lst)
  have h2 := Mx.hid (u32s_one K64)
  have H1 := Mx.hid (fun i u (h : (u32s I8.lst)[i]? = some u) => (show w.cell? ⟨1, 0 + i, none⟩ = some u by rw [Nat.zero_add]; exact hL.sq i u h))
  have H2 := Mx.hid (fun i u (h : (u32s K64)[i]? = some u) => (show w.cell? ⟨2, 0 + i, none⟩ = some u by rw [Nat.zero_add]; exact hL.cu i u h))
  go_enter Tryz.func58, Tryz.ntmps58
  go_wp2_with (first | ((with_reducible show wpList _ _ _ _ _ _); refine wpl_loadA rfl 96 _ rfl Tryz.a8 (1) (0) rfl (u32s I8.lst) (by rfl) H1.out ?_) | ((with_reducible show wpList _ _ _ _ _ _); refine wpl_loadA rfl 116 _ rfl Tryz.a64 (2) (0) rfl (u32s K64) (by rfl) H2.out ?_) | ((with_reducible show wpList _ _ _ _ _ _); refine wpl_storeA rfl 96 _ _ rfl Tryz.a8 hs (3) rfl (u32s I8.lst) rfl (by rfl) (by simp [u32s_len]) h1.out ?_; intro w1 hs1) | ((with_reducible show wpList _ _ _ _ _ _); refine wpl_storeA rfl 116 _ _ rfl Tryz.a64 hs1 (11) rfl (u32s K64) rfl (by rfl) (by simp [u32s_len, S8.lst_len]) h2.out ?_; intro w2 hs2))
  go_end0
  exact ⟨rfl, hs2.cast rfl (by rfl)⟩

set_option maxRecDepth 100000 in
set_option maxHeartbeats 2000000 in
theorem slow_any (w0 w : World) (R : List Row) (Q : List Rd) (gc : Nat) (hs : St w0 w (crow gc 0 0 (u32s (List.replicate 72 0)) :: R) Q) (hL : ∀ w', St w0 w' [] [] → Laid w') :
    Calls Tryz.prog 84 #[.pointer (some ⟨gc, 0, none⟩), .func (.func 58) #[.pointer (some ⟨gc, 0, none⟩)] #[]] w fun e w' => e = .returned (.tuple #[]) ∧ St w0 w' (crow gc 1 0 (u32s I8.lst ++ u32s K64) :: R) Q := by
  have c1 : w.cell? ⟨gc, 1, none⟩ = some (.int .i32 0) := hs.cell rfl
  have f1 : w.frozen? ⟨gc, 1, none⟩ = false := hs.free (by simp)
  have hs1 : St w0 (w.setCell ⟨gc, 1, none⟩ (.int .i32 1)) (crow gc 0 1 (u32s (List.replicate 72 0)) :: R) Q := hs.setCell Tryz.prog 1 (.int .i32 1) (by simp) rfl
  have HL := Mx.hid hL
  have hnot : ∀ (x : Bool) (w : World), (Op.unary .not (.bool x)).run Tryz.prog w = .ok (.bool (!x)) w := fun _ _ => rfl
  clear hL hs
  go_enter_defers Tryz.func84, Tryz.ntmps84
  go_wp2_with (go_at_call 110; refine (lock_free ⟨gc, 1, none⟩ _ (by go_simp) (by go_simp)).mono ?_; rintro e w' ⟨rfl, rfl⟩)
  generalize w.setCell ⟨gc, 1, none⟩ (.int .i32 1) = w1 at hs1 ⊢
  clear c1 f1
  have hl := run_call_load (P := Tryz.prog) Tryz.func109 (by kernel_rfl) (by kernel_rfl) (by kernel_rfl) .u32 (by kernel_rfl) (w := w1) (a := ⟨gc, 0, none⟩) (x := 0) (hs1.cell rfl)
  go_wp2_with (first | (go_at_call 83; go_in) | (go_at_call 58; refine (fill_any w0 w1 R Q gc 0 1 hs1 (HL.out _ hs1.bare)).mono ?_; rintro e w2 ⟨rfl, hs2⟩))
  refine leaves_cons (f := 112) (args := #[.pointer (some ⟨gc, 0, none⟩), .bool true]) (by simp) (by simp [go_sem]) ?_
  have c2 : w2.cell? ⟨gc, 0, none⟩ = some (.int .u32 0) := hs2.cell rfl
  have f2 : w2.frozen? ⟨gc, 0, none⟩ = false := hs2.free (by simp)
  refine (store_deferred ⟨gc, 0, none⟩ (.int .u32 0) .returning _ c2 f2).mono ?_
  rintro e u' w'' ⟨rfl, rfl, rfl⟩
  have hs3 : St w0 (w2.drew.setCell ⟨gc, 0, none⟩ (.int .u32 1)) (crow gc 1 1 (u32s I8.lst ++ u32s K64) :: R) Q := hs2.drew.setCell Tryz.prog 0 (.int .u32 1) (by simp) rfl
  generalize w2.drew.setCell ⟨gc, 0, none⟩ (.int .u32 1) = w3 at hs3 ⊢
  have c3 : w3.cell? ⟨gc, 1, none⟩ = some (.int .i32 1) := hs3.cell rfl
  have f3 : w3.frozen? ⟨gc, 1, none⟩ = false := hs3.free (by simp)
  refine leaves_cons (f := 111) (args := #[.pointer (some ⟨gc, 1, none⟩)]) (by simp [settle]) (by simp [go_sem]) ?_
  refine (unlock_deferred ⟨gc, 1, none⟩ _ _ c3 f3).mono ?_
  rintro e u' w'' ⟨rfl, rfl, rfl⟩
  have hs4 : St w0 (w3.setCell ⟨gc, 1, none⟩ (.int .i32 0)) (crow gc 1 0 (u32s I8.lst ++ u32s K64) :: R) Q := hs3.setCell Tryz.prog 1 (.int .i32 0) (by simp) rfl
  have HS4 := Mx.hid hs4
  clear hs4 hs3 hs2 hs1
  simp [Leaves, settle, results, Tryz.results84]
  exact HS4.out

set_option maxRecDepth 100000 in
set_option maxHeartbeats 2000000 in
theorem do_any (w0 w : World) (R : List Row) (Q : List Rd) (gc : Nat) (hs : St w0 w (crow gc 0 0 (u32s (List.replicate 72 0)) :: R) Q) (hL : ∀ w', St w0 w' [] [] → Laid w') :
    Calls Tryz.prog 57 #[.pointer (some ⟨gc, 0, none⟩), .func (.func 58) #[.pointer (some ⟨gc, 0, none⟩)] #[]] w fun e w' => e = .returned (.tuple #[]) ∧ St w0 w' (crow gc 1 0 (u32s I8.lst ++ u32s K64) :: R) Q := by
  have hl := run_call_load (P := Tryz.prog) Tryz.func109 (by kernel_rfl) (by kernel_rfl) (by kernel_rfl) .u32 (by kernel_rfl) (w := w) (a := ⟨gc, 0, none⟩) (x := 0) (hs.cell rfl)
  have hnot : ∀ (x : Bool) (w : World), (Op.unary .not (.bool x)).run Tryz.prog w = .ok (.bool (!x)) w := fun _ _ => rfl
  have HL := Mx.hid hL
  clear hL
  go_enter Tryz.func57, Tryz.ntmps57
  go_wp2_with (first | (go_at_call 84; refine (slow_any w0 w R Q gc hs HL.out).mono ?_; rintro e w' ⟨rfl, hs2⟩) | (go_at_call 83; go_in))
  go_end0
  exact ⟨rfl, hs2⟩

def NewPost (w0 : World) (R : List Row) (Q : List Rd) (e : Ending) (w' : World) : Prop :=
  ∃ g gc, e = .returned (.pointer (some ⟨g, 0, none⟩)) ∧ St w0 w' (hrow g gc I8 (.slice none 0 0) 0 :: R) (⟨.slice none 0 0, 1, 0, []⟩ :: cq gc :: Q)

set_option maxRecDepth 100000 in
set_option maxHeartbeats 2000000 in
theorem new_any (w0 w : World) (R : List Row) (Q : List Rd) (hs : St w0 w R Q) (hL : ∀ w', St w0 w' [] [] → Laid w') :
    Calls Tryz.prog 36 #[] w (NewPost w0 R Q) := by
  have hs1 := hs.madeAt (crow w.heap.size 0 0 (u32s (List.replicate 72 0))).xs.toArray 118 75 1 w.heap.size (by rfl) (by simp [maxLen]) rfl
  have HS1 := Mx.hid hs1
  have HL := Mx.hid hL
  clear hL hs hs1
  go_enter Tryz.func36, Tryz.ntmps36
  go_wp2_with fail
  refine (do_any w0 _ R Q w.heap.size (by exact HS1.out) HL.out).mono ?_
  rintro e w2 ⟨rfl, hs2⟩
  generalize w.heap.size = gc at *
  clear HS1
  have hc : ∀ i u, (u32s I8.lst)[i]? = some u → w2.cell? ⟨gc, 3 + i, none⟩ = some u := hs2.rcells (ys := [.int .u32 1, .int .i32 0, .int .u32 0]) (cs := u32s I8.lst) (zs := u32s K64) (j := 3) (List.mem_cons_self ..) (by rw [List.append_assoc]) rfl
  have HC := Mx.hid hc
  have hs3 : St w0 w2 R (cq gc :: Q) := hs2.freeze
  have hs4 := (hs3.madeAt (hrow w2.heap.size gc I8 (.slice none 0 0) 0).xs.toArray 121 11 1 w2.heap.size (by rfl) (by simp [maxLen]) rfl).addQnil
  have HS4 := Mx.hid hs4
  clear hc hs2 hs3 hs4
  go_wp2_with ((with_reducible show wpList _ _ _ _ _ _); refine wpl_loadA rfl 96 _ rfl Tryz.a8 (gc) (3) rfl (u32s I8.lst) (by rfl) HC.out ?_)
  go_ret
  exact ⟨_, gc, rfl, HS4.out⟩

/-- sha.Sum: the hash. -/
theorem sum_any (w : World) (v : Value) (b : List UInt8) (hv : Sl w 1 v b.length (bs b)) (hb : b.length ≤ 140737488351232) (hL : ∀ w', St w w' [] [] → Laid w') :
    Calls Tryz.prog 22 #[v] w fun e w' => ∃ v', e = .returned v' ∧ St w w' [⟨v', 5, 1, 32, bs (sha b)⟩] [] := by
  have HV := Mx.hid hv
  have HL := Mx.hid hL
  obtain ⟨ao, ac, rfl, _⟩ := id hv
  clear hv hL
  go_enter Tryz.func22, Tryz.ntmps22
  go_wp2_with fail
  refine (new_any w w [] [] (St.refl w) HL.out).mono ?_
  rintro e w1 ⟨g, gc, rfl, hs1⟩
  go_wp2_with fail
  have hs2 : St w w1 [hrow g gc I8 (.slice none 0 0) 0] (⟨.slice none 0 0, 1, ([] : List UInt8).length, bs []⟩ :: [⟨.slice ao b.length ac, 1, b.length, bs b⟩, cq gc]) :=
    (hs1.addQ (q := ⟨.slice ao b.length ac, 1, b.length, bs b⟩) HV.out).sub (List.Sublist.refl _) (fun q hq => by
      simp only [List.mem_cons, List.not_mem_nil, or_false] at hq ⊢
      rcases hq with h | h | h
      · exact .inr (.inl h)
      · exact .inl h
      · exact .inr (.inr h))
  refine (write_any w w1 [] [⟨.slice ao b.length ac, 1, b.length, bs b⟩, cq gc] g gc I8 _ _ 0 [] b hs2 (by simp) (by simp) (by simp) hb (by omega)).mono ?_
  rintro e w2 ⟨v2, rfl, hs3⟩
  rw [List.nil_append, Nat.zero_add] at hs3
  have hE := Mx.hid (sha_eat b)
  have hRl := eatR_lt b
  generalize eatS I8 b = s at *
  generalize eatR b = r at *
  go_wp2_with fail
  refine (hsum_any w w2 [] _ g gc s v2 b.length r hs3 (by simp) (by omega) hb).mono ?_
  rintro e w3 ⟨v3, rfl, hs4⟩
  go_wp2_with fail
  go_ret
  refine ⟨v3, rfl, ?_⟩
  rw [hE.out]
  exact hs4.head.noQ
end Go.Proofs.YtlfdnlomlbbicaaGreatDoor

namespace Go.Mx
open Go Go.RowKit
theorem perm_pick {α : Type} (l : List α) (i : Nat) (h : i < l.length) : l.Perm (l[i] :: l.eraseIdx i) := by
  induction l generalizing i with
  | nil => simp at h
  | cons x l ih =>
    match i with
    | 0 => simp
    | i + 1 =>
      simp only [List.getElem_cons_succ, List.eraseIdx_cons_succ]
      exact ((ih i (by simpa using h)).cons x).trans (List.Perm.swap _ _ _)
theorem perm_set {α : Type} (l : List α) (i : Nat) (h : i < l.length) (x : α) : (x :: l.eraseIdx i).Perm (l.set i x) := by
  induction l generalizing i with
  | nil => simp at h
  | cons y l ih =>
    match i with
    | 0 => simp
    | i + 1 =>
      simp only [List.set_cons_succ, List.eraseIdx_cons_succ]
      exact (List.Perm.swap _ _ _).trans ((ih i (by simpa using h)).cons y)
theorem run_make_rep {P : Program} {t e : TypeId} {z : Value} {bytes : Nat} (ht : P.underlying t = some (.slice e)) (h : (P.info? e).map (fun i => (i.zero, i.size, i.bytes)) = some (some z, 1, bytes)) (hz : z.cells = #[z]) (hby : 1 ≤ bytes) (n : Nat) (hb : bytes * n ≤ 281474976710656) :
    ∃ C : Array Value, C.toList = List.replicate n z ∧ ∀ (i : Int), i = n → ∀ w : World, (Instr.makeSlice t (.int .i64 i) (.int .i64 i)).run P w = .ok (.slice (some ⟨w.heap.size, 0, none⟩) n n) (w.alloc (.cells C e)) := by
  obtain ⟨i, h1, h2, h3, h4⟩ := info_parts h
  refine ⟨madeCells #[z] n, toList_madeCells_one z n, fun k hk w => ?_⟩
  subst hk
  have hn : n ≤ bytes * n := Nat.le_mul_of_pos_left n hby
  have := run_make (P := P) w t e i z ht h1 h2 .i64 .i64 (n : Int) (n : Int) (by omega) (by omega) (by rw [h4]; have : ((bytes * n : Nat) : Int) = (bytes : Int) * (n : Int) := Int.natCast_mul _ _; omega) (by omega)
  rw [this, h3, hz, Nat.mul_one, Int.toNat_natCast]
end Go.Mx
