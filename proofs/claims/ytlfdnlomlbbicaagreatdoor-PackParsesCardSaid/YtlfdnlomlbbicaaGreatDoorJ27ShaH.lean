/- The walk of sha.ID. marlaw1.first. The hasher by what it was given: contracts of New, Write, Copy, Sum, Len. What the listed variables hold, off the row's premise. -/
import Derived.Test.YtlfdnlomlbbicaaGreatDoorJ21ShaO
import Derived.Test.YtlfdnlomlbbicaaGreatDoorJ14Shex
import Derived.Test.YtlfdnlomlbbicaaGreatDoorJ8WireK
import Derived.Test.YtlfdnlomlbbicaaGreatDoorRows
import Derived.OpenShut
import Derived.MakeChecks
import Derived.ProofKit
namespace Go.Proofs.YtlfdnlomlbbicaaGreatDoor
open Go.RowKit Go.Mx

theorem id_any (v : Value) (b : List UInt8) (w : World) (hv : Sl w 1 v b.length (bs b)) (hl : b.length ≤ 140737488351232) (hL : ∀ w', St w w' [] [] → Laid w') :
    Calls Tryz.prog 69 #[v] w fun e w' => e = .returned (.string (str (hexL (sha b)))) ∧ St w w' [] [] := by
  have HL := Mx.hid hL
  clear hL
  go_enter Tryz.func69, Tryz.ntmps69
  go_wp2_with fail
  refine (sum_any w v b hv hl HL.out).mono ?_
  rintro e w1 ⟨v1, rfl, hs1⟩
  have hl2 := sha_len b
  have hs2 := hs1.cast hl2.symm rfl
  generalize hd : sha b = d at *
  have HD := Mx.hid hd
  clear hd
  go_wp2_with fail
  refine (shex_any v1 d w1 hs2.sl0 (by omega)).mono ?_
  rintro e w2 ⟨rfl, hk⟩
  go_wp2_with fail
  go_ret
  exact ⟨by rw [HD.out]; rfl, hs2.bare.call0 hk⟩
end Go.Proofs.YtlfdnlomlbbicaaGreatDoor

namespace Go.Mx
open Go Go.RowKit
theorem hex_abc : hexL (sha [97, 98, 99]) = [98, 97, 55, 56, 49, 54, 98, 102, 56, 102, 48, 49, 99, 102, 101, 97, 52, 49, 52, 49, 52, 48, 100, 101, 53, 100, 97, 101, 50, 50, 50, 51, 98, 48, 48, 51, 54, 49, 97, 51, 57, 54, 49, 55, 55, 97, 57, 99, 98, 52, 49, 48, 102, 102, 54, 49, 102, 50, 48, 48, 49, 53, 97, 100] := by
  rw [sha_abc]; decide +kernel
theorem hexL_take : ∀ (n : Nat) (l : List UInt8), (hexL l).take (2 * n) = hexL (l.take n)
  | 0, l => by simp [hexL]
  | n + 1, [] => by simp [hexL]
  | n + 1, x :: l => by
    rw [show 2 * (n + 1) = 2 * n + 1 + 1 by omega, hexL, List.take_succ_cons, List.take_succ_cons, hexL_take n l, List.take_succ_cons, hexL]
theorem St.madeMAt {w0 w : World} {R : List Row} {Q : List Rd} (h : St w0 w R Q) (cells : Array Value) (e : TypeId) (size n g : Nat) (hn : cells.size = n * size) (hm : n ≤ maxLen) (hg : g = w.heap.size) :
    St w0 (w.alloc (.cells cells e (cells.size, cells.size + 1))) (⟨.slice (some ⟨g, 0, none⟩) n n, e, size, n, cells.toList⟩ :: R) Q := by
  subst hg; exact h.madeM cells e size n hn hm
theorem hex_nil8 : (hexL (sha [])).take 8 = [101, 51, 98, 48, 99, 52, 52, 50] := by
  rw [show 8 = 2 * 4 from rfl, hexL_take, sha_nil]; decide +kernel
end Go.Mx
namespace Go.Proofs.YtlfdnlomlbbicaaGreatDoor
open Go.RowKit Go.Mx
end Go.Proofs.YtlfdnlomlbbicaaGreatDoor

namespace Go.Proofs.YtlfdnlomlbbicaaGreatDoor
open Go.RowKit Go.Mx

/-- A hasher that was given m. -/
abbrev HS (g gc : Nat) (m : List UInt8) (v : Value) : Row := hrow g gc (eatS I8 m) v (m.length : Int)
abbrev rst (v : Value) (m : List UInt8) : Rd := ⟨v, 1, (eatR m).length, bs (eatR m)⟩
abbrev rdb (v : Value) (l : List UInt8) : Rd := ⟨v, 1, l.length, bs l⟩
abbrev byr (v : Value) (l : List UInt8) : Row := ⟨v, 5, 1, l.length, bs l⟩

def NewM (w0 : World) (R : List Row) (Q : List Rd) (e : Ending) (w' : World) : Prop :=
  ∃ g gc v, e = .returned (.pointer (some ⟨g, 0, none⟩)) ∧ St w0 w' (HS g gc [] v :: R) (rst v [] :: cq gc :: Q)
theorem newM (w0 w : World) (R : List Row) (Q : List Rd) (hs : St w0 w R Q) (hL : ∀ w', St w0 w' [] [] → Laid w') :
    Calls Tryz.prog 36 #[] w (NewM w0 R Q) :=
  (new_any w0 w R Q hs hL).mono fun _ _ ⟨g, gc, he, h⟩ => ⟨g, gc, _, he, h⟩

def WriteM (w0 : World) (R : List Row) (Q : List Rd) (g gc : Nat) (m : List UInt8) (e : Ending) (w' : World) : Prop :=
  ∃ v, e = .returned (.tuple #[]) ∧ St w0 w' (HS g gc m v :: R) (rst v m :: Q)
theorem writeM (w0 w : World) (R : List Row) (Q : List Rd) (g gc : Nat) (v vb : Value) (m b : List UInt8) (hs : St w0 w (HS g gc m v :: R) (rst v m :: Q)) (hq : cq gc ∈ Q) (hb : rdb vb b ∈ Q) (hm : m.length ≤ 140737488351232) (hbl : b.length ≤ 140737488351232) :
    Calls Tryz.prog 37 #[.pointer (some ⟨g, 0, none⟩), vb] w (WriteM w0 R Q g gc (m ++ b)) :=
  (write_any w0 w R Q g gc (eatS I8 m) v vb m.length (eatR m) b hs hq hb (by have := eatR_lt m; omega) hbl hm).mono fun e w' ⟨v', he, h⟩ => ⟨v', he, by
    have e1 := eatS_app I8 m b
    have e2 := eatR_app m b
    rw [← e1, ← e2, ← List.length_append] at h
    exact h⟩

def SumM (w0 : World) (R : List Row) (Q : List Rd) (g gc : Nat) (v : Value) (m : List UInt8) (e : Ending) (w' : World) : Prop :=
  ∃ x, e = .returned x ∧ St w0 w' (byr x (sha m) :: HS g gc m v :: R) (rst v m :: Q)
theorem sumM (w0 w : World) (R : List Row) (Q : List Rd) (g gc : Nat) (v : Value) (m : List UInt8) (hs : St w0 w (HS g gc m v :: R) (rst v m :: Q)) (hq : cq gc ∈ Q) (hm : m.length ≤ 140737488351232) :
    Calls Tryz.prog 38 #[.pointer (some ⟨g, 0, none⟩)] w (SumM w0 R Q g gc v m) :=
  (hsum_any w0 w R Q g gc (eatS I8 m) v m.length (eatR m) hs hq (by have := eatR_lt m; omega) hm).mono fun e w' ⟨x, he, h⟩ => ⟨x, he, by
    rw [← sha_eat] at h
    exact h.cast (sha_len m).symm rfl⟩

def CopyM (w0 : World) (R : List Row) (Q : List Rd) (g gc : Nat) (v : Value) (m : List UInt8) (e : Ending) (w' : World) : Prop :=
  ∃ g' v', e = .returned (.pointer (some ⟨g', 0, none⟩)) ∧ St w0 w' (HS g' gc m v' :: HS g gc m v :: R) (rst v' m :: rst v m :: Q)
theorem copyM (w0 w : World) (R : List Row) (Q : List Rd) (g gc : Nat) (v : Value) (m : List UInt8) (hs : St w0 w (HS g gc m v :: R) (rst v m :: Q)) :
    Calls Tryz.prog 61 #[.pointer (some ⟨g, 0, none⟩)] w (CopyM w0 R Q g gc v m) :=
  (copy_any w0 w R Q g gc (eatS I8 m) v (m.length : Int) (eatR m) hs (by have := eatR_lt m; omega)).mono fun e w' ⟨g', v', he, h⟩ => ⟨g', v', he, h⟩


end Go.Proofs.YtlfdnlomlbbicaaGreatDoor

namespace Go.Mx
open Go Go.RowKit
/-- A cell of a variable that is an array of numbers of 32 bits. -/
theorem arr_cell {P : Program} {W : World} {nm : String} {g : Nat} {cs : Array Value} {t e : TypeId} {n : Nat} {nums : List Int} {fuel : Nat} {p : List MemPlace}
    (ht : P.underlying t = some (.array n e)) (he : P.underlying e = some (.int .u32)) (ce : P.cellsOf e = 1) (hg : P.globalNamed nm = some g) (hv : W.var? P nm = some cs)
    (hd : DataW.trod (fun _ => ()) P W 0 (fun _ => true) false fuel t cs.toList = some (.agg (nums.map fun z => (DataW.lit (.int .u32 z) : DataW Unit)), p)) (hn : nums.length = n) (r : Nat) (hr : r < n) :
    W.cell? ⟨g, r, none⟩ = some (.int .u32 (nums.getD r 0)) := by
  obtain ⟨xs, m, _, ex, _, hl, hel⟩ := DataW.trod_array ht hd
  have hE := hel r hr
  rw [ce, Nat.mul_one, List.getElem?_eq_getElem (by omega)] at hE
  obtain ⟨z, e1, e2, _⟩ := DataW.trod_int he hE
  have e3 : (xs.map (·.1)) = nums.map fun z => (DataW.lit (.int .u32 z) : DataW Unit) := (DataW.agg.inj (Prod.mk.inj ex).1).symm
  have e4 : (xs.map (·.1))[r]? = (nums.map fun z => (DataW.lit (.int .u32 z) : DataW Unit))[r]? := by rw [e3]
  rw [List.getElem?_map, List.getElem?_map, List.getElem?_eq_getElem (by omega : r < xs.length), List.getElem?_eq_getElem (by omega : r < nums.length), e2] at e4
  have hz : z = nums.getD r 0 := by
    simp only [Option.map_some, Option.some.injEq, DataW.lit.injEq, Lit.int.injEq, true_and] at e4
    rw [e4, List.getD, List.getElem?_eq_getElem (by omega : r < nums.length)]; rfl
  rw [World.var?_cell hg hv r, ← hz]
  have : cs.toList[r]? = some (.int .u32 z) := by
    have h0 : ((cs.toList.drop r).take 1)[0]? = some (.int .u32 z) := by rw [e1]; rfl
    simpa using h0
  simpa using this
theorem nums_cell {l : List U32} {i : Nat} {u : Value} (h : (u32s l)[i]? = some u) : i < l.length ∧ u = .int .u32 ((l.map fun x => (x.toNat : Int)).getD i 0) := by
  have hi : i < l.length := by rw [← u32s_len]; exact (List.getElem?_eq_some_iff.1 h).1
  rw [u32s_get hi] at h
  refine ⟨hi, ?_⟩
  rw [← Option.some.inj h]
  simp [hi]
end Go.Mx
namespace Go.Proofs.YtlfdnlomlbbicaaGreatDoor
open Go.RowKit Go.Mx

set_option maxRecDepth 100000 in
theorem laid_of_met {W : World} (h : laidMetH Tryz.prog [("marline/sha.cubes", Rows.laid_marline_sha_cubes), ("marline/sha.squares", Rows.laid_marline_sha_squares)] W) : Laid W := by
  rw [MakeChecks.laidMetH_plain _ _ _ (by kernel_rfl)] at h
  obtain ⟨ps, ⟨g, t, cs, fuel, p, q, hg, ht, hv, hd, ⟨g', t', cs', fuel', p', q', hg', ht', hv', hd', _, _⟩, _⟩, _, _⟩ := h
  obtain rfl := Option.some.inj ((show Tryz.prog.globalNamed "marline/sha.cubes" = some 2 by kernel_rfl).symm.trans hg)
  obtain rfl := Option.some.inj ((show (Tryz.prog.globals[2]?).map (·.type) = some 116 by kernel_rfl).symm.trans ht)
  obtain rfl := Option.some.inj ((show Tryz.prog.globalNamed "marline/sha.squares" = some 1 by kernel_rfl).symm.trans hg')
  obtain rfl := Option.some.inj ((show (Tryz.prog.globals[1]?).map (·.type) = some 96 by kernel_rfl).symm.trans ht')
  have ce : Tryz.prog.cellsOf 92 = 1 := by kernel_rfl
  have hc : (Rows.laid_marline_sha_cubes : DataW Unit) = .agg ((K64.map fun x => (x.toNat : Int)).map fun z => (DataW.lit (.int .u32 z) : DataW Unit)) := by kernel_rfl
  have hs : (Rows.laid_marline_sha_squares : DataW Unit) = .agg ((I8.lst.map fun x => (x.toNat : Int)).map fun z => (DataW.lit (.int .u32 z) : DataW Unit)) := by kernel_rfl
  rw [hc] at hd
  rw [hs] at hd'
  refine ⟨fun i u hu => ?_, fun i u hu => ?_⟩
  · obtain ⟨hi, rfl⟩ := nums_cell hu
    exact arr_cell Tryz.underlying96 Tryz.underlying92 ce hg' hv' hd' (by rw [List.length_map]; rfl) i (by rw [S8.lst_len] at hi; exact hi)
  · obtain ⟨hi, rfl⟩ := nums_cell hu
    exact arr_cell Tryz.underlying116 Tryz.underlying92 ce hg hv hd (by rw [List.length_map]; rfl) i (by simpa [K64] using hi)
end Go.Proofs.YtlfdnlomlbbicaaGreatDoor
