/- The walker's step over a stable line: what it leaves. -/
import Derived.Test.YtafmgclhgmhflaaDoorD3V
namespace Go.Proofs.YtafmgclhgmhflaaDoor
open Go.RowKit Go.Mx

abbrev txr (v : Value) (l : List ByteArray) : Row := ⟨v, 9, 1, l.length, ss l⟩
def StPost (w0 : World) (g : Nat) (vo va vb : Value) (i j k : Nat) (cs : List Ck) (run : List ByteArray) (e : Ending) (w' : World) : Prop :=
  ∃ (v : Value) (vs : List V3) (xO xA xB : Value), e = .returned (.tuple #[]) ∧ vs.length = cs.length ∧ St w0 w' [wkr g vo va vb i j k v, ckr v (vs ++ [⟨xO, xA, xB⟩]) (cs ++ [⟨1, run, run, run⟩]), txr xO run, txr xA run, txr xB run] (rdc vs cs)

theorem ck_last (vs : List V3) (cs : List Ck) (h : vs.length = cs.length) (x a b c : Value) : (ckc vs cs ++ [x, a, b, c])[cs.length * 4 + 1]? = some a ∧ (ckc vs cs ++ [x, a, b, c])[cs.length * 4 + 2]? = some b ∧ (ckc vs cs ++ [x, a, b, c])[cs.length * 4 + 3]? = some c := by
  have := ckc_len vs cs h
  rw [← this]
  simp
theorem ck_keep {w0 w : World} {R : List Row} {Q : List Rd} {go n gc : Nat} {e : TypeId} {vs : List V3} {cs : List Ck} {x xO xA xB : Value} (h : St w0 w R Q) (hm : (⟨.slice (some ⟨go, 0, none⟩) n gc, e, 4, n, ckc vs cs ++ [x, xO, xA, xB]⟩ : Row) ∈ R) (hl : vs.length = cs.length) :
    w.cell? ⟨go, cs.length * 4 + 1, none⟩ = some xO ∧ w.cell? ⟨go, cs.length * 4 + 2, none⟩ = some xA ∧ w.cell? ⟨go, cs.length * 4 + 3, none⟩ = some xB := by
  obtain ⟨h1, h2, h3⟩ := ck_last vs cs hl x xO xA xB
  exact ⟨h.rcell hm h1, h.rcell hm h2, h.rcell hm h3⟩
section
variable {vs : List V3} {cs : List Ck}
theorem st3_len (h : vs.length = cs.length) (x a b c : Value) : cs.length * 4 + 1 < (ckc vs cs ++ [x, a, b, c]).length := by rw [List.length_append, ckc_len _ _ h]; simp
theorem st3_len2 (h : vs.length = cs.length) (x a b c : Value) : cs.length * 4 + 2 < (ckc vs cs ++ [x, a, b, c]).length := by rw [List.length_append, ckc_len _ _ h]; simp
theorem st3_len3 (h : vs.length = cs.length) (x a b c : Value) : cs.length * 4 + 3 < (ckc vs cs ++ [x, a, b, c]).length := by rw [List.length_append, ckc_len _ _ h]; simp
theorem st3_1 (h : vs.length = cs.length) {x a b c u : Value} : (ckc vs cs ++ [x, a, b, c]).take (cs.length * 4 + 1) ++ [u] ++ (ckc vs cs ++ [x, a, b, c]).drop (cs.length * 4 + 1 + 1) = ckc vs cs ++ [x, u, b, c] := by
  have := ckc_len vs cs h
  rw [← this, List.take_append, List.drop_append, List.take_of_length_le (by omega), List.drop_of_length_le (by omega)]; simp [Nat.add_assoc, Nat.add_sub_cancel_left]
theorem st3_2 (h : vs.length = cs.length) {x a b c u : Value} : (ckc vs cs ++ [x, a, b, c]).take (cs.length * 4 + 2) ++ [u] ++ (ckc vs cs ++ [x, a, b, c]).drop (cs.length * 4 + 2 + 1) = ckc vs cs ++ [x, a, u, c] := by
  have := ckc_len vs cs h
  rw [← this, List.take_append, List.drop_append, List.take_of_length_le (by omega), List.drop_of_length_le (by omega)]; simp [Nat.add_assoc, Nat.add_sub_cancel_left]
theorem st3_3 (h : vs.length = cs.length) {x a b c u : Value} : (ckc vs cs ++ [x, a, b, c]).take (cs.length * 4 + 3) ++ [u] ++ (ckc vs cs ++ [x, a, b, c]).drop (cs.length * 4 + 3 + 1) = ckc vs cs ++ [x, a, b, u] := by
  have := ckc_len vs cs h
  rw [← this, List.take_append, List.drop_append, List.take_of_length_le (by omega), List.drop_of_length_le (by omega)]; simp [Nat.add_assoc, Nat.add_sub_cancel_left]
end
theorem stable_leaf {w0 w : World} {g go gc i j k : Nat} {vo va vb uO uA uB : Value} {vs : List V3} {cs : List Ck} {run : List ByteArray} {line : ByteArray} {Q : List Rd} {x xO xA xB : Value} (hvs : vs.length = cs.length) (hx : x = .int .i64 1) (hQ : ∀ q ∈ rdc vs cs, q ∈ Q)
    (h : St w0 w [⟨.slice (some ⟨go, 0, none⟩) (cs.length + 1) gc, 42, 4, cs.length + 1, (((ckc vs cs ++ [x, xO, xA, xB]).take (cs.length * 4 + 1) ++ [uO] ++ (ckc vs cs ++ [x, xO, xA, xB]).drop (cs.length * 4 + 1 + 1)).take (cs.length * 4 + 2) ++ [uA] ++ ((ckc vs cs ++ [x, xO, xA, xB]).take (cs.length * 4 + 1) ++ [uO] ++ (ckc vs cs ++ [x, xO, xA, xB]).drop (cs.length * 4 + 1 + 1)).drop (cs.length * 4 + 2 + 1)).take (cs.length * 4 + 3) ++ [uB] ++ (((ckc vs cs ++ [x, xO, xA, xB]).take (cs.length * 4 + 1) ++ [uO] ++ (ckc vs cs ++ [x, xO, xA, xB]).drop (cs.length * 4 + 1 + 1)).take (cs.length * 4 + 2) ++ [uA] ++ ((ckc vs cs ++ [x, xO, xA, xB]).take (cs.length * 4 + 1) ++ [uO] ++ (ckc vs cs ++ [x, xO, xA, xB]).drop (cs.length * 4 + 1 + 1)).drop (cs.length * 4 + 2 + 1)).drop (cs.length * 4 + 3 + 1)⟩,
      ⟨uO, 9, 1, run.length + 1, ss run ++ [.string line]⟩, ⟨uA, 9, 1, run.length + 1, ss run ++ [.string line]⟩, ⟨uB, 9, 1, run.length + 1, ss run ++ [.string line]⟩, wkr g vo va vb i j k (.slice (some ⟨go, 0, none⟩) (cs.length + 1) gc)] Q) :
    StPost w0 g vo va vb i j k cs (run ++ [line]) (.returned (.tuple #[])) w := by
  subst hx
  rw [st3_1 hvs, st3_2 hvs, st3_3 hvs] at h
  refine ⟨.slice (some ⟨go, 0, none⟩) (cs.length + 1) gc, vs, uO, uA, uB, rfl, hvs, ?_⟩
  have e1 : (run ++ [line]).length = run.length + 1 := by simp
  have e2 : ss (run ++ [line]) = ss run ++ [.string line] := by simp [ss]
  unfold txr
  rw [e1, e2]
  have h2 := h.cast (n' := (cs ++ [(⟨1, run ++ [line], run ++ [line], run ++ [line]⟩ : Ck)]).length) (xs' := ckc (vs ++ [⟨uO, uA, uB⟩]) (cs ++ [⟨1, run ++ [line], run ++ [line], run ++ [line]⟩])) (by simp) (by rw [ckc_snoc _ _ _ _ hvs]; rfl)
  exact (h2.rot.rot.rot.rot).sub (List.Sublist.refl _) hQ
end Go.Proofs.YtafmgclhgmhflaaDoor
