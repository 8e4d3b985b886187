/- The walk of a delta's reader. -/
import Derived.Test.YtdcleibbldmnaaaDelP
import Derived.Test.YtdcleibbldmnaaaWireG
import Derived.Test.YtdcleibbldmnaaaLibA
import Derived.Test.YtdcleibbldmnaaaLists
namespace Go.Proofs.Ytdcleibbldmnaaa
open Go.RowKit Go.Mx

/-- The reader's variable. -/
abbrev rdr (g : Nat) (v : Value) (e : Int) : Row :=
  ⟨.slice (some ⟨g, 0, none⟩) 1 1, 43, 2, 1, [v, .int .i64 e]⟩

def NumPost (w0 : World) (R : List Row) (Q : List Rd) (g : Nat) (l : List UInt8) (e : Ending) (w' : World) : Prop :=
  ∃ v : Value, e = .returned (.int .i64 (nmN l : Int)) ∧ Sl w0 1 v (l.drop (nmJ l)).length (bs (l.drop (nmJ l))) ∧ St w0 w' (rdr g v (nmE l) :: R) Q

set_option maxHeartbeats 1000000 in
theorem number_go (w0 w : World) (R : List Row) (Q : List Rd) (g : Nat) (v : Value) (l : List UInt8) (hs : St w0 w (rdr g v 0 :: R) Q) (hl : Sl w0 1 v l.length (bs l)) (hn : l.length ≤ 140737488355328) :
    Calls Try.prog 25 #[.pointer (some ⟨g, 0, none⟩)] w (NumPost w0 R Q g l) := by
  have c0 : w.cell? ⟨g, 0, none⟩ = some v := hs.rcell (List.mem_cons_self ..) rfl
  have c1 : w.cell? ⟨g, 1, none⟩ = some (.int .i64 0) := hs.rcell (List.mem_cons_self ..) rfl
  go_enter Try.func25, Try.ntmps25
  go_wp2_with fail
  refine (get_any v l 0 _ (hs.old hl) hn).mono ?_
  rintro e w1 ⟨rfl, hk⟩
  rw [nm_eq]
  have hs1 := hs.call0 hk
  have hJ : nmJ l ≤ l.length := by
    by_cases h : nmE l = 0
    · exact (nm_good h).2.1
    · rw [(nm_bad h).2]; omega
  obtain ⟨x, p1, q1⟩ := hl.cutRun Try.elU8 (some (.int .i64 (nmJ l : Int))) none (nmJ l) l.length (.inr ⟨.i64, rfl⟩) (.inl ⟨rfl, rfl⟩) hJ (Nat.le_refl _)
  have hx := Sl.cutB (q1 _ hl) (Nat.le_refl _) hJ
  rw [List.take_length] at hx
  generalize hXX : l.drop (nmJ l) = X at hx ⊢
  have HX := Mx.hid hx
  obtain ⟨xo, xc, rfl, _⟩ := hx
  generalize hXL : X.length = xl at *
  clear q1 hl c0 c1
  have c2 : w1.cell? ⟨g, 0, none⟩ = some v := hs1.rcell (List.mem_cons_self ..) rfl
  generalize hjj : (nmJ l : Int) = jj at p1 ⊢
  generalize hnn : (nmN l : Int) = nn
  generalize hee : nmE l = ee
  go_wp2_with (first | ((with_reducible show wpList _ _ _ _ _ _); refine wpl_store1 rfl 28 _ _ rfl hs1 (1) rfl (.int .i64 ee) rfl rfl (by kernel_rfl) (by simp) rfl ?_; intro w2 hs2); have c3 : w2.cell? ⟨g, 0, none⟩ = some v := hs2.rcell (List.mem_cons_self ..) rfl | ((with_reducible show wpList _ _ _ _ _ _); refine wpl_store1 rfl 22 _ _ rfl hs2 (0) rfl (.slice xo xl xc) rfl rfl (by kernel_rfl) (by simp) rfl ?_; intro w3 hs3))
  go_ret
  unfold NumPost
  rw [hXX, hXL, hnn, hee]
  exact ⟨.slice xo xl xc, rfl, HX.out, hs3⟩

/-- A reader that met an error says nothing. -/
theorem number_stop (w : World) (g : Nat) (e : Int) (c1 : w.cell? ⟨g, 1, none⟩ = some (.int .i64 e)) (he : e ≠ 0) :
    Calls Try.prog 25 #[.pointer (some ⟨g, 0, none⟩)] w fun r w' => r = .returned (.int .i64 0) ∧ St w w' [] [] := by
  have he' : (e != 0) = true := by simpa using he
  go_enter Try.func25, Try.ntmps25
  go_wp2_with fail
  go_ret
  exact ⟨rfl, St.refl _⟩
end Go.Proofs.Ytdcleibbldmnaaa
