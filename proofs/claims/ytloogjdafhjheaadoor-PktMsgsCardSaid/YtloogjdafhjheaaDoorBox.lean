/- A value laid into a variable of its own (an argument whose address is taken). -/
import Derived.Test.YtloogjdafhjheaaDoorLibA
import Derived.Great.BuildSlice
namespace Go.Mx
open Go Go.RowKit
theorem wpl_box {P : Program} {w0 w : World} {R : List Row} {Qs : List Rd} {ops : Array Oper} {rest : List Oper} {o : Oper} {a : Act} {Q : Exit → Act → World → Prop} (hgd : o.guard = none) (t : TypeId) (x : Operand) (ho : o.op = .box t x)
    (hst : St w0 w R Qs) (cs : List Value) (hx : (a.eval x).cells = cs.toArray)
    (h : ∀ g w', St w0 w' (⟨.slice (some ⟨g, 0, none⟩) 1 1, t, cs.length, 1, cs⟩ :: R) Qs → wpList P ops Q rest (a.put o.dst (.pointer (some ⟨g, 0, none⟩))) w') : wpList P ops Q (o :: rest) a w := by
  refine wpList_plain hgd fun K hK => ?_
  have hs := hst.madeAt cs.toArray t cs.length 1 w.heap.size (by simp) (by simp [maxLen]) rfl
  unfold Oper.wp execOp
  simp only [ho, Instr.box, newVar, newRow, hx, Sem.run_bind, Sem.run_pure]
  exact hK _ _ (h _ _ (by simpa using hs))
theorem St.bq {w0 w : World} {R : List Row} {Q : List Rd} (h : St w0 w R Q) (x : Value) (e : TypeId) : St w0 (w.alloc (.cells #[x] e)) R (⟨.slice (some ⟨w.heap.size, 0, none⟩) 1 1, 1, 1, [x]⟩ :: Q) :=
  (h.madeAt #[x] e 1 1 w.heap.size rfl (by simp [maxLen]) rfl).freeze

/-- A literal of one element of one cell. -/
theorem wpl_lit1 {P : Program} {w0 w : World} {R : List Row} {Qs : List Rd} {ops : Array Oper} {rest : List Oper} {o : Oper} {a : Act} {Q : Exit → Act → World → Prop} (hgd : o.guard = none) (t : TypeId) (x : Operand) (ho : o.op = .buildSlice t 1 #[(0, x)])
    {e : TypeId} {bytes : Nat} (E : El P t e 1 bytes) (hst : St w0 w R Qs) (u : Value) (hx : a.eval x = u) (h1 : u.cells = #[u])
    (h : ∀ g w', St w0 w' (⟨.slice (some ⟨g, 0, none⟩) 1 1, e, 1, 1, [u]⟩ :: R) Qs → wpList P ops Q rest (a.put o.dst (.slice (some ⟨g, 0, none⟩) 1 1)) w') : wpList P ops Q (o :: rest) a w := by
  obtain ⟨i, z, h2, h3, h4, h5, h6⟩ := E.hi
  refine wpList_buildSlice hgd t e 1 #[(0, x)] ho #[u] i z E.ht h2 h3 (by rw [h4]; decide) (by rw [h4]; decide) ?_ (h _ _ ?_)
  · simp [h4, hx, h1, Instr.fill]
    rw [show Array.range 1 = #[0] from rfl]
    simp
  · exact hst.made #[u] e 1 1 rfl (by simp [maxLen])
end Go.Mx
