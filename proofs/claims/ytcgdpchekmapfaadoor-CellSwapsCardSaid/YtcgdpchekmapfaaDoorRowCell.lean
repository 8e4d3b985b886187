/- Slices of marlaw3's structs. -/
import Derived.Test.YtcgdpchekmapfaaDoorRowSt
namespace Go.Mx
open Go Go.RowKit Go.ChangeShapes Go.WideShapes Go.ChangeAt Go.Deep
variable {H : Type} {enc : TypeId × Value → H} {P : Program} {w : World}

/-- An Op: its kind, its number. -/
def opRow (p : Int × Int) : List Value := [.int .i64 p.1, .int .i64 p.2]
def OpOk (p : Int × Int) : Prop := (-9223372036854775808 ≤ p.1 ∧ p.1 ≤ 9223372036854775807) ∧ (-9223372036854775808 ≤ p.2 ∧ p.2 ≤ 9223372036854775807)
theorem wf_bd {n : Int} (h : (Lit.int .i64 n).wf = true) : -9223372036854775808 ≤ n ∧ n ≤ 9223372036854775807 := by
  simpa [Lit.wf, IntKind.min, IntKind.max, IntKind.signed, IntKind.bits] using h
theorem open_ops {r : Reach} {b0 : Nat} {t e tI : TypeId} {f0 f1 : Field} {v : Value} {d : DataW H} {ps : List MemPlace} {held : Bool} (ht : P.underlying t = some (.slice e)) (he : P.underlying e = some (.struct #[f0, f1]))
    (hone : oneCellFields P #[f0, f1] = true) (hC : P.cellsOf e = 2) (h0 : f0.type = tI) (h1 : f1.type = tI) (hI : P.underlying tI = some (.int .i64))
    (hval : Value.okWide P w r b0 t v) (hd : DataW.Trod enc P w 0 (fun _ => true) held t v d ps) : ∃ l : List (Int × Int), Sl w 2 v l.length (l.flatMap opRow) ∧ ∀ t ∈ l, OpOk t := by
  refine open_structs opRow OpOk (0, 0) (fun _ => rfl) (by omega) ht he hone hC rfl (fun cs hcl hg => ?_) hval hd
  match cs, hcl with
  | [c0, c1], _ =>
    obtain ⟨_, _, _, e0, g0⟩ := hg 0 f0 rfl
    obtain ⟨_, _, _, e1, g1⟩ := hg 1 f1 rfl
    obtain rfl := Option.some.inj e0
    obtain rfl := Option.some.inj e1
    rw [h0] at g0
    rw [h1] at g1
    obtain ⟨n0, q0, _, w0⟩ := DataW.trod_int hI g0
    obtain ⟨n1, q1, _, w1⟩ := DataW.trod_int hI g1
    simp at q0 q1
    subst q0; subst q1
    exact ⟨(n0, n1), rfl, wf_bd w0, wf_bd w1⟩

/-- A Put: is it a Swap; old; new. -/
def putRow (p : Bool × ByteArray × ByteArray) : List Value := [.bool p.1, .string p.2.1, .string p.2.2]
def PutOk (p : Bool × ByteArray × ByteArray) : Prop := p.2.1.size ≤ maxLen ∧ p.2.2.size ≤ maxLen
theorem open_puts {r : Reach} {b0 : Nat} {t e tB tS : TypeId} {f0 f1 f2 : Field} {v : Value} {d : DataW H} {ps : List MemPlace} {held : Bool} (ht : P.underlying t = some (.slice e)) (he : P.underlying e = some (.struct #[f0, f1, f2]))
    (hone : oneCellFields P #[f0, f1, f2] = true) (hC : P.cellsOf e = 3) (h0 : f0.type = tB) (h1 : f1.type = tS) (h2 : f2.type = tS) (hB : P.underlying tB = some .bool) (hS : P.underlying tS = some .string)
    (hval : Value.okWide P w r b0 t v) (hd : DataW.Trod enc P w 0 (fun _ => true) held t v d ps) : ∃ l : List (Bool × ByteArray × ByteArray), Sl w 3 v l.length (l.flatMap putRow) ∧ ∀ t ∈ l, PutOk t := by
  refine open_structs putRow PutOk (false, ByteArray.empty, ByteArray.empty) (fun _ => rfl) (by omega) ht he hone hC rfl (fun cs hcl hg => ?_) hval hd
  match cs, hcl with
  | [c0, c1, c2], _ =>
    obtain ⟨_, _, _, e0, g0⟩ := hg 0 f0 rfl
    obtain ⟨_, _, _, e1, g1⟩ := hg 1 f1 rfl
    obtain ⟨_, _, _, e2, g2⟩ := hg 2 f2 rfl
    obtain rfl := Option.some.inj e0
    obtain rfl := Option.some.inj e1
    obtain rfl := Option.some.inj e2
    rw [h0] at g0
    rw [h1] at g1
    rw [h2] at g2
    obtain ⟨n0, q0, _⟩ := DataW.trod_bool hB g0
    obtain ⟨n1, q1, _, w1⟩ := DataW.trod_string hS g1
    obtain ⟨n2, q2, _, w2⟩ := DataW.trod_string hS g2
    simp at q0 q1 q2
    subst q0; subst q1; subst q2
    exact ⟨(n0, n1, n2), rfl, w1, w2⟩
end Go.Mx
