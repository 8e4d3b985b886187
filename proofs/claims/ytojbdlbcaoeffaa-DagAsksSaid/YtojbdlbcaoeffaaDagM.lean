/- The graph of commits in memory; walks of dag.New, Has, Len, Stamp, Parents. -/
import Derived.Test.YtojbdlbcaoeffaaMapM
import Derived.Test.YtojbdlbcaoeffaaDagP
import Derived.Test.YtojbdlbcaoeffaaSrtC
import Derived.Test.YtojbdlbcaoeffaaLibA
namespace Go.Mx
open Go Go.RowKit

/-- A commit in memory: where its parents lie. -/
abbrev Gd := Value × Nd
def ndV (q : Gd) : Value := .agg #[q.1, .int .i64 q.2.2.2]
def gent (q : Gd) : Ent := (q.2.1, ndV q)
def gfnd : List Gd → ByteArray → Option Gd
  | [], _ => none
  | q :: G, k => if q.2.1 = k then some q else gfnd G k
theorem mget_g (G : List Gd) (k : ByteArray) : mget (G.map gent) k = (gfnd G k).map ndV := by
  induction G with
  | nil => rfl
  | cons q G ih =>
    rw [List.map_cons, mget, gfnd]
    show (if q.2.1 = k then some (ndV q) else mget (G.map gent) k) = _
    split
    · rfl
    · exact ih
theorem gfnd_fnd (G : List Gd) (k : ByteArray) : fnd (G.map (·.2)) k = (gfnd G k).map fun q => q.2.2 := by
  induction G with
  | nil => rfl
  | cons q G ih =>
    rw [List.map_cons, fnd, gfnd]
    split
    · rfl
    · exact ih
theorem gfnd_mem {G : List Gd} {k : ByteArray} {q : Gd} (h : gfnd G k = some q) : q ∈ G ∧ q.2.1 = k := by
  induction G with
  | nil => cases h
  | cons p G ih =>
    rw [gfnd] at h
    split at h
    · rename_i hk; cases h; exact ⟨List.mem_cons_self .., hk⟩
    · exact ⟨List.mem_cons_of_mem _ (ih h).1, (ih h).2⟩
def ndZ : Value := .agg #[.slice none 0 0, .int .i64 0]

/-- At address g stands a graph: its map is block B, its commits are G. -/
structure GR (w : World) (g B : Nat) (G : List Gd) : Prop where
  cell : w.cell? ⟨g, 0, none⟩ = some (.map (some B))
  mp : Mp w B (G.map gent)
  sl : ∀ q ∈ G, Sl w 1 q.1 q.2.2.1.length (ss q.2.2.1)
  few : ∀ q ∈ G, q.2.2.1.length ≤ 1000000
  len : G.length ≤ 2000
theorem GR.grow {w w' : World} {g B : Nat} {G : List Gd} (h : GR w g B G) (hb : Below w.heap.size w w') : GR w' g B G where
  cell := (hb.cell (World.block_lt_of_cell? w _ h.cell)).trans h.cell
  mp := h.mp.grow hb
  sl q hq := (h.sl q hq).below hb
  few := h.few
  len := h.len
theorem GR.st {w0 w : World} {R : List Row} {Q : List Rd} {g B : Nat} {G : List Gd} (h : GR w0 g B G) (hs : St w0 w R Q) : GR w g B G := h.grow hs.below
/-- What one commit reads as. -/
theorem GR.get {w : World} {g B : Nat} {G : List Gd} (h : GR w g B G) {k : ByteArray} {n : List ByteArray × Int} (hn : fnd (G.map (·.2)) k = some n) : ∃ pv, mget (G.map gent) k = some (.agg #[pv, .int .i64 n.2]) ∧ Sl w 1 pv n.1.length (ss n.1) ∧ n.1.length ≤ 1000000 := by
  rw [gfnd_fnd] at hn
  obtain ⟨q, hq, rfl⟩ := Option.map_eq_some_iff.1 hn
  exact ⟨q.1, by rw [mget_g, hq]; rfl, h.sl q (gfnd_mem hq).1, h.few q (gfnd_mem hq).1⟩
theorem GR.none {G : List Gd} {k : ByteArray} (hn : fnd (G.map (·.2)) k = none) : mget (G.map gent) k = none := by
  rw [gfnd_fnd] at hn
  rw [mget_g]
  cases hg : gfnd G k with
  | none => rfl
  | some q => rw [hg] at hn; cases hn
def stampL (L : List Nd) (k : ByteArray) : Int := match fnd L k with | some n => n.2 | none => -1
def parsG (L : List Nd) (k : ByteArray) : List ByteArray := match fnd L k with | some n => n.1 | none => []
end Go.Mx
namespace Go.Proofs.Ytojbdlbcaoeffaa
open Go.RowKit Go.Mx

theorem Try.zeroNd : ∀ w : World, (zeroValue 60).run Try.prog w = .ok ndZ w := fun _ => by kernel_rfl
theorem Try.zeroInt : ∀ w : World, (zeroValue 3).run Try.prog w = .ok (.int .i64 0) w := fun _ => by kernel_rfl

theorem Try.aNd : Ag Try.prog 60 2 := ⟨⟨_, Try.underlying60, rfl⟩, by kernel_rfl⟩

theorem Try.fldP (x : Value) (y : Int) (w : World) : (Instr.field 60 (.agg #[x, .int .i64 y]) 0).run Try.prog w = .ok x w := by kernel_rfl
theorem Try.fldS (x : Value) (y : Int) (w : World) : (Instr.field 60 (.agg #[x, .int .i64 y]) 1).run Try.prog w = .ok (.int .i64 y) w := by kernel_rfl

theorem has_g (g B : Nat) (G : List Gd) (k : ByteArray) (w : World) (h : GR w g B G) :
    Calls Try.prog 11 #[.pointer (some ⟨g, 0, none⟩), .string k] w fun e w' => e = .returned (.bool (isIn (G.map (·.2)) k)) ∧ St w w' [] [] := by
  have c0 := h.cell
  have HM := Mx.hid h.mp
  cases hn : fnd (G.map (·.2)) k with
  | none =>
    have HI := Mx.hid (show isIn (G.map (·.2)) k = false by unfold isIn; rw [hn]; rfl)
    have HG := Mx.hid (GR.none hn)
    clear hn h
    go_enter Try.func11, Try.ntmps11
    go_wp2_with (first | ((with_reducible show wpList _ _ _ _ _ _); refine wpl_look rfl 62 _ _ true rfl Try.underlying62 Try.underlying9 Try.zeroNd (by exact HM.out) rfl k rfl ?_; rw [HG.out]) | ((with_reducible show wpList _ _ _ _ _ _); refine wpl_storeA rfl 60 _ _ rfl Try.aNd ((St.refl w).made #[.slice none 0 0, .int .i64 0] 60 2 1 (by rfl) (by simp [maxLen])) (0) rfl ([.slice none 0 0, .int .i64 0]) rfl (by rfl) (by simp) (by intro u hu; simp at hu; rcases hu with rfl | rfl <;> rfl) ?_; intro w2 hs2))
    go_ret
    exact ⟨by rw [HI.out]; rfl, hs2.bare⟩
  | some n =>
    have HI := Mx.hid (show isIn (G.map (·.2)) k = true by unfold isIn; rw [hn]; rfl)
    obtain ⟨pv, hg, hsl, _⟩ := h.get hn
    obtain ⟨pa, pc, rfl, _⟩ := hsl.form
    have HG := Mx.hid hg
    clear hn h hg hsl
    go_enter Try.func11, Try.ntmps11
    go_wp2_with (first | ((with_reducible show wpList _ _ _ _ _ _); refine wpl_look rfl 62 _ _ true rfl Try.underlying62 Try.underlying9 Try.zeroNd (by exact HM.out) rfl k rfl ?_; rw [HG.out]) | ((with_reducible show wpList _ _ _ _ _ _); refine wpl_storeA rfl 60 _ _ rfl Try.aNd ((St.refl w).made #[.slice none 0 0, .int .i64 0] 60 2 1 (by rfl) (by simp [maxLen])) (0) rfl ([.slice pa n.1.length pc, .int .i64 n.2]) rfl (by rfl) (by simp) (by intro u hu; simp at hu; rcases hu with rfl | rfl <;> rfl) ?_; intro w2 hs2))
    go_ret
    exact ⟨by rw [HI.out]; rfl, hs2.bare⟩

theorem len_g (g B : Nat) (G : List Gd) (w : World) (h : GR w g B G) :
    Calls Try.prog 19 #[.pointer (some ⟨g, 0, none⟩)] w fun e w' => e = .returned (.int .i64 (G.length : Int)) ∧ w = w' := by
  have c0 := h.cell
  have HM := Mx.hid h.mp
  have HL := Mx.hid (show (G.map gent).length = G.length from List.length_map ..)
  clear h
  go_enter Try.func19, Try.ntmps19
  go_wp2_with ((with_reducible show wpList _ _ _ _ _ _); refine wpl_mlen rfl 62 _ rfl Try.underlying62 HM.out rfl ?_; rw [HL.out])
  go_ret
  exact ⟨rfl, rfl⟩

theorem stamp_g (g B : Nat) (G : List Gd) (k : ByteArray) (w : World) (h : GR w g B G) :
    Calls Try.prog 18 #[.pointer (some ⟨g, 0, none⟩), .string k] w fun e w' => e = .returned (.int .i64 (stampL (G.map (·.2)) k)) ∧ St w w' [] [] := by
  have HH := Mx.hid (has_g g B G k w h)
  have HR := Mx.hid (fun w' (hs : St w w' [] []) => h.st hs)
  cases hn : fnd (G.map (·.2)) k with
  | none =>
    have HI := Mx.hid (show stampL (G.map (·.2)) k = -1 by unfold stampL; rw [hn])
    have hi : isIn (G.map (·.2)) k = false := by unfold isIn; rw [hn]; rfl
    rw [hi] at HH
    clear hn h hi
    have kf := Try.fldS
    go_enter Try.func18, Try.ntmps18
    go_wp2_with fail
    refine HH.out.mono ?_
    rintro e w1 ⟨rfl, hs⟩
    go_wp2_with fail
    go_ret
    exact ⟨by rw [HI.out]; rfl, hs⟩
  | some n =>
    have HI := Mx.hid (show stampL (G.map (·.2)) k = n.2 by unfold stampL; rw [hn])
    have hi : isIn (G.map (·.2)) k = true := by unfold isIn; rw [hn]; rfl
    obtain ⟨pv, hg, hsl, _⟩ := h.get hn
    obtain ⟨pa, pc, rfl, _⟩ := hsl.form
    have HG := Mx.hid hg
    rw [hi] at HH
    clear hn h hi hsl hg
    have kf := Try.fldS
    go_enter Try.func18, Try.ntmps18
    go_wp2_with fail
    refine HH.out.mono ?_
    rintro e w1 ⟨rfl, hs⟩
    have hr := HR.out _ hs
    have c0 := hr.cell
    have HM := Mx.hid hr.mp
    clear hr
    go_wp2_with ((with_reducible show wpList _ _ _ _ _ _); refine wpl_look rfl 62 _ _ false rfl Try.underlying62 Try.underlying9 Try.zeroNd (by exact HM.out) rfl k rfl ?_; rw [HG.out])
    go_ret
    exact ⟨by rw [HI.out]; rfl, hs⟩

theorem parents_g (g B : Nat) (G : List Gd) (k : ByteArray) (w : World) (h : GR w g B G) :
    Calls Try.prog 23 #[.pointer (some ⟨g, 0, none⟩), .string k] w fun e w' => ∃ v, e = .returned v ∧ St w w' [⟨v, 9, 1, (parsG (G.map (·.2)) k).length, ss (parsG (G.map (·.2)) k)⟩] [] := by
  have c0 := h.cell
  have HM := Mx.hid h.mp
  cases hn : fnd (G.map (·.2)) k with
  | none =>
    have HI := Mx.hid (show parsG (G.map (·.2)) k = [] by unfold parsG; rw [hn])
    have HG := Mx.hid (GR.none hn)
    have HC := Mx.hid (sclone_any (.slice none 0 0) [] w (Sl.nil _ _) (by simp))
    clear hn h
    have kf := Try.fldP
    have kz : ndZ = .agg #[.slice none 0 0, .int .i64 0] := rfl
    go_enter Try.func23, Try.ntmps23
    go_wp2_with (first | ((with_reducible show wpList _ _ _ _ _ _); refine wpl_look rfl 62 _ _ false rfl Try.underlying62 Try.underlying9 Try.zeroNd (by exact HM.out) rfl k rfl ?_; rw [HG.out]))
    refine HC.out.mono ?_
    rintro e w1 ⟨v1, rfl, hs⟩
    go_wp2_with fail
    go_ret
    exact ⟨_, rfl, by rw [HI.out]; exact hs⟩
  | some n =>
    have HI := Mx.hid (show parsG (G.map (·.2)) k = n.1 by unfold parsG; rw [hn])
    obtain ⟨pv, hg, hsl, hl⟩ := h.get hn
    have HC := Mx.hid (sclone_any pv n.1 w hsl (by omega))
    obtain ⟨pa, pc, rfl, _⟩ := hsl.form
    have HG := Mx.hid hg
    clear hn h hg hsl hl
    have kf := Try.fldP
    have kz : ndZ = .agg #[.slice none 0 0, .int .i64 0] := rfl
    go_enter Try.func23, Try.ntmps23
    go_wp2_with (first | ((with_reducible show wpList _ _ _ _ _ _); refine wpl_look rfl 62 _ _ false rfl Try.underlying62 Try.underlying9 Try.zeroNd (by exact HM.out) rfl k rfl ?_; rw [HG.out]))
    refine HC.out.mono ?_
    rintro e w1 ⟨v1, rfl, hs⟩
    go_wp2_with fail
    go_ret
    exact ⟨_, rfl, by rw [HI.out]; exact hs⟩

def NewPost (w : World) (e : Ending) (w' : World) : Prop := ∃ g B, e = .returned (.pointer (some ⟨g, 0, none⟩)) ∧ w.heap.size ≤ B ∧ w.heap.size ≤ g ∧ GR w' g B [] ∧ St w w' [] []
theorem new_g (w : World) :
    Calls Try.prog 24 #[] w (NewPost w) := by
  have q := @run_makeMap Try.prog
  have HM := Mx.hid (Mp.made w)
  have HS := Mx.hid (((St.refl w).alloc (.map #[] 0)).madeAt #[.map (some w.heap.size)] 64 1 1 (w.heap.size + 1) (by rfl) (by simp [maxLen]) (heap_size_alloc _ _).symm)
  go_enter Try.func24, Try.ntmps24
  go_wp2_with fail
  go_ret
  exact ⟨w.heap.size + 1, w.heap.size, rfl, Nat.le_refl _, by omega, ⟨HS.out.cell rfl, HM.out.grow ((Below.refl _ _).alloc (Nat.le_refl _) _), by simp, by simp, by simp⟩, HS.out.bare⟩
end Go.Proofs.Ytojbdlbcaoeffaa
