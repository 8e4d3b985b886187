/- marlaw1.first. The hasher by what it was given: contracts of New, Write, Copy, Sum, Len. -/
import Derived.Test.YtobpojlophhfaaaDoorShaH
namespace Go.Mx
open Go Go.RowKit
theorem hex_abc : hexL (sha [97, 98, 99]) = [98, 97, 55, 56, 49, 54, 98, 102, 56, 102, 48, 49, 99, 102, 101, 97, 52, 49, 52, 49, 52, 48, 100, 101, 53, 100, 97, 101, 50, 50, 50, 51, 98, 48, 48, 51, 54, 49, 97, 51, 57, 54, 49, 55, 55, 97, 57, 99, 98, 52, 49, 48, 102, 102, 54, 49, 102, 50, 48, 48, 49, 53, 97, 100] := by
  rw [sha_abc]; decide +kernel
theorem hexL_take : ∀ (n : Nat) (l : List UInt8), (hexL l).take (2 * n) = hexL (l.take n)
  | 0, l => by simp [hexL]
  | n + 1, [] => by simp [hexL]
  | n + 1, x :: l => by
    rw [show 2 * (n + 1) = 2 * n + 1 + 1 by omega, hexL, List.take_succ_cons, List.take_succ_cons, hexL_take n l, List.take_succ_cons, hexL]
theorem St.madeMAt {w0 w : World} {R : List Row} {Q : List Rd} (h : St w0 w R Q) (cells : Array Value) (e : TypeId) (size n g : Nat) (hn : cells.size = n * size) (hm : n ≤ maxLen) (hg : g = w.heap.size) :
    St w0 (w.alloc (.cells cells e (cells.size, cells.size + 1))) (⟨.slice (some ⟨g, 0, none⟩) n n, e, size, n, cells.toList⟩ :: R) Q := by
  subst hg; exact h.madeM cells e size n hn hm
theorem hex_nil8 : (hexL (sha [])).take 8 = [101, 51, 98, 48, 99, 52, 52, 50] := by
  rw [show 8 = 2 * 4 from rfl, hexL_take, sha_nil]; decide +kernel
end Go.Mx
namespace Go.Proofs.YtobpojlophhfaaaDoor
open Go.RowKit Go.Mx
end Go.Proofs.YtobpojlophhfaaaDoor

namespace Go.Proofs.YtobpojlophhfaaaDoor
open Go.RowKit Go.Mx

/-- A hasher that was given m. -/
abbrev HS (g gc : Nat) (m : List UInt8) (v : Value) : Row := hrow g gc (eatS I8 m) v (m.length : Int)
abbrev rst (v : Value) (m : List UInt8) : Rd := ⟨v, 1, (eatR m).length, bs (eatR m)⟩
abbrev rdb (v : Value) (l : List UInt8) : Rd := ⟨v, 1, l.length, bs l⟩
abbrev byr (v : Value) (l : List UInt8) : Row := ⟨v, 5, 1, l.length, bs l⟩

def NewM (w0 : World) (R : List Row) (Q : List Rd) (e : Ending) (w' : World) : Prop :=
  ∃ g gc v, e = .returned (.pointer (some ⟨g, 0, none⟩)) ∧ St w0 w' (HS g gc [] v :: R) (rst v [] :: cq gc :: Q)
theorem newM (w0 w : World) (R : List Row) (Q : List Rd) (hs : St w0 w R Q) (hL : ∀ w', St w0 w' [] [] → Laid w') :
    Calls Tryd.prog 73 #[] w (NewM w0 R Q) :=
  (new_any w0 w R Q hs hL).mono fun _ _ ⟨g, gc, he, h⟩ => ⟨g, gc, _, he, h⟩

def WriteM (w0 : World) (R : List Row) (Q : List Rd) (g gc : Nat) (m : List UInt8) (e : Ending) (w' : World) : Prop :=
  ∃ v, e = .returned (.tuple #[]) ∧ St w0 w' (HS g gc m v :: R) (rst v m :: Q)
theorem writeM (w0 w : World) (R : List Row) (Q : List Rd) (g gc : Nat) (v vb : Value) (m b : List UInt8) (hs : St w0 w (HS g gc m v :: R) (rst v m :: Q)) (hq : cq gc ∈ Q) (hb : rdb vb b ∈ Q) (hm : m.length ≤ 140737488351232) (hbl : b.length ≤ 140737488351232) :
    Calls Tryd.prog 74 #[.pointer (some ⟨g, 0, none⟩), vb] w (WriteM w0 R Q g gc (m ++ b)) :=
  (write_any w0 w R Q g gc (eatS I8 m) v vb m.length (eatR m) b hs hq hb (by have := eatR_lt m; omega) hbl hm).mono fun e w' ⟨v', he, h⟩ => ⟨v', he, by
    have e1 := eatS_app I8 m b
    have e2 := eatR_app m b
    rw [← e1, ← e2, ← List.length_append] at h
    exact h⟩

def SumM (w0 : World) (R : List Row) (Q : List Rd) (g gc : Nat) (v : Value) (m : List UInt8) (e : Ending) (w' : World) : Prop :=
  ∃ x, e = .returned x ∧ St w0 w' (byr x (sha m) :: HS g gc m v :: R) (rst v m :: Q)
theorem sumM (w0 w : World) (R : List Row) (Q : List Rd) (g gc : Nat) (v : Value) (m : List UInt8) (hs : St w0 w (HS g gc m v :: R) (rst v m :: Q)) (hq : cq gc ∈ Q) (hm : m.length ≤ 140737488351232) :
    Calls Tryd.prog 75 #[.pointer (some ⟨g, 0, none⟩)] w (SumM w0 R Q g gc v m) :=
  (hsum_any w0 w R Q g gc (eatS I8 m) v m.length (eatR m) hs hq (by have := eatR_lt m; omega) hm).mono fun e w' ⟨x, he, h⟩ => ⟨x, he, by
    rw [← sha_eat] at h
    exact h.cast (sha_len m).symm rfl⟩

def CopyM (w0 : World) (R : List Row) (Q : List Rd) (g gc : Nat) (v : Value) (m : List UInt8) (e : Ending) (w' : World) : Prop :=
  ∃ g' v', e = .returned (.pointer (some ⟨g', 0, none⟩)) ∧ St w0 w' (HS g' gc m v' :: HS g gc m v :: R) (rst v' m :: rst v m :: Q)
theorem copyM (w0 w : World) (R : List Row) (Q : List Rd) (g gc : Nat) (v : Value) (m : List UInt8) (hs : St w0 w (HS g gc m v :: R) (rst v m :: Q)) :
    Calls Tryd.prog 96 #[.pointer (some ⟨g, 0, none⟩)] w (CopyM w0 R Q g gc v m) :=
  (copy_any w0 w R Q g gc (eatS I8 m) v (m.length : Int) (eatR m) hs (by have := eatR_lt m; omega)).mono fun e w' ⟨g', v', he, h⟩ => ⟨g', v', he, h⟩


/-- x[i:] and x[:i] of a slice that reads as bytes, under one name. -/
theorem cutD {w : World} {v : Value} {l : List UInt8} (h : Sl w 1 v l.length (bs l)) {i : Nat} (hi : i ≤ l.length) :
    ∃ xo xc, (∀ w', (Instr.sliceAt 22 v (some (.int .i64 (i : Int))) none none).run Tryd.prog w' = .ok (.slice xo (l.length - i) xc) w') ∧ ∀ w', Sl w' 1 v l.length (bs l) → Sl w' 1 (.slice xo (l.length - i) xc) (l.drop i).length (bs (l.drop i)) := by
  obtain ⟨x, p, q⟩ := h.cutRun Tryd.elU8 (some (.int .i64 (i : Int))) none i l.length (.inr ⟨.i64, rfl⟩) (.inl ⟨rfl, rfl⟩) hi (Nat.le_refl _)
  have q' : ∀ w', Sl w' 1 v l.length (bs l) → Sl w' 1 x (l.drop i).length (bs (l.drop i)) := fun w' h' => by
    have := Sl.cutB (q _ h') (Nat.le_refl _) hi
    rwa [List.take_length] at this
  obtain ⟨xo, xc, hx, _⟩ := q' _ h
  rw [List.length_drop] at hx
  subst hx
  exact ⟨xo, xc, p, q'⟩
theorem cutT {w : World} {v : Value} {l : List UInt8} (h : Sl w 1 v l.length (bs l)) {i : Nat} (hi : i ≤ l.length) :
    ∃ xo xc, (∀ w', (Instr.sliceAt 22 v none (some (.int .i64 (i : Int))) none).run Tryd.prog w' = .ok (.slice xo i xc) w') ∧ ∀ w', Sl w' 1 v l.length (bs l) → Sl w' 1 (.slice xo i xc) (l.take i).length (bs (l.take i)) := by
  obtain ⟨x, p, q⟩ := h.cutRun Tryd.elU8 none (some (.int .i64 (i : Int))) 0 i (.inl ⟨rfl, rfl⟩) (.inr ⟨.i64, rfl⟩) (Nat.zero_le _) hi
  have q' : ∀ w', Sl w' 1 v l.length (bs l) → Sl w' 1 x (l.take i).length (bs (l.take i)) := fun w' h' => by
    have := Sl.cutB (q _ h') hi (Nat.zero_le _)
    rwa [List.drop_zero] at this
  obtain ⟨xo, xc, hx, _⟩ := q' _ h
  have e : (l.take i).length = i := by rw [List.length_take]; omega
  rw [e] at hx
  subst hx
  exact ⟨xo, xc, p, q'⟩
end Go.Proofs.YtobpojlophhfaaaDoor
