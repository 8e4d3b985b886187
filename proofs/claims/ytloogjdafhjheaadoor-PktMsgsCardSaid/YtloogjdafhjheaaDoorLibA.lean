/- Arrays and structs in memory: loads and stores of whole ones over the symbolic heap. -/
import Derived.Test.YtloogjdafhjheaaDoorLib3
import Derived.Laws.Rows
namespace Go.Mx
open Go Go.RowKit

/-- A type of n cells that is loaded and stored whole. -/
structure Ag (P : Program) (t : TypeId) (n : Nat) : Prop where
  hd : ∃ d, P.underlying t = some d ∧ (match d with | .struct _ | .array _ _ => true | _ => false) = true
  hi : (P.info? t).map (·.size) = some n

theorem run_loadA {P : Program} {t : TypeId} {n : Nat} (A : Ag P t n) {w : World} {g j : Nat} {cs : List Value} (hn : cs.length = n) (hc : ∀ i u, cs[i]? = some u → w.cell? ⟨g, j + i, none⟩ = some u) :
    (loadVar t ⟨g, j, none⟩).run P w = .ok (.agg cs.toArray) w := by
  obtain ⟨d, hu, hd⟩ := A.hd
  have hl := run_loadCells_list (P := P) w ⟨g, j, none⟩ cs (fun i u h => by rw [Addr.add_lit]; exact hc i u h)
  have hi := A.hi
  cases hq : P.info? t with
  | none => rw [hq] at hi; cases hi
  | some i =>
    have hs : i.size = cs.length := by rw [hn]; simpa [hq] using hi
    have hagg : (isAgg t).run P w = .ok true w := by
      unfold isAgg
      rw [Sem.run_bind, run_underlying hu w]
      cases d <;> simp_all
    simp [loadVar, Sem.run_bind, hagg, sizeOf, typeInfo, hq, hs, hl]

theorem wpl_loadA {P : Program} {w : World} {ops : Array Oper} {rest : List Oper} {o : Oper} {a : Act} {Q : Exit → Act → World → Prop} (hgd : o.guard = none) (t : TypeId) (x : Operand) (ho : o.op = .load t x) {n : Nat} (A : Ag P t n) (g j : Nat)
    (hx : a.eval x = .pointer (some ⟨g, j, none⟩)) (cs : List Value) (hn : cs.length = n) (hc : ∀ i u, cs[i]? = some u → w.cell? ⟨g, j + i, none⟩ = some u)
    (h : wpList P ops Q rest (a.put o.dst (.agg cs.toArray)) w) : wpList P ops Q (o :: rest) a w :=
  wpl_val hgd (by unfold execOp; simp only [ho, hx, Instr.loadAt, Instr.sureAddr, Sem.run_bind, Sem.run_pure, Result.andThen_ok, run_loadA A hn hc]) h

theorem wpl_storeA {P : Program} {w0 w : World} {R : List Row} {Qs : List Rd} {ops : Array Oper} {rest : List Oper} {o : Oper} {a : Act} {Q : Exit → Act → World → Prop} (hgd : o.guard = none) (t : TypeId) (p x : Operand) (ho : o.op = .store t p x) {n : Nat} (A : Ag P t n)
    {g m cap : Nat} {e : TypeId} {size : Nat} {xs : List Value} (hst : St w0 w (⟨.slice (some ⟨g, 0, none⟩) m cap, e, size, m, xs⟩ :: R) Qs) (j : Nat) (hp : a.eval p = .pointer (some ⟨g, j, none⟩))
    (cs : List Value) (hx : a.eval x = .agg cs.toArray) (hn : cs.length = n) (hj : j + n ≤ xs.length) (h1 : ∀ u ∈ cs, u.oneCell' = true)
    (h : ∀ w', St w0 w' (⟨.slice (some ⟨g, 0, none⟩) m cap, e, size, m, xs.take j ++ cs ++ xs.drop (j + n)⟩ :: R) Qs → wpList P ops Q rest (a.put o.dst undef) w') : wpList P ops Q (o :: rest) a w := by
  subst hn
  refine wpl_store hgd t p x ho hst j hp (by rw [hx, A.hi]; simp [Value.cells]) (by rw [hx]; simpa [Value.cells] using hj) (by rw [hx]; simpa [Value.cells] using h1) fun w' hs => h w' ?_
  rw [hx] at hs
  simpa [Value.cells] using hs

/-- A result that lies in a variable of its own. -/
theorem results_cellA {P : Program} {fn : Func} {p : Tmp} {ty : TypeId} (h : fn.results = #[.cell p ty]) (tmps : Array Value) {n : Nat} (A : Ag P ty n) {w : World} {g : Nat} (cs : List Value) (hp : tmps.getD p undef = .pointer (some ⟨g, 0, none⟩)) (hn : cs.length = n)
    (hc : ∀ i u, cs[i]? = some u → w.cell? ⟨g, i, none⟩ = some u) : (results fn tmps).run P w = .ok (.agg cs.toArray) w := by
  have hp' : tmps[p]?.getD undef = .pointer (some ⟨g, 0, none⟩) := by simpa using hp
  simp [results, h, hp', asAddr, run_loadA A hn (g := g) (j := 0) (by simpa using hc)]

/-- A cell of any row. -/
theorem St.rcell {w0 w : World} {R : List Row} {Q : List Rd} {g n cap : Nat} {e : TypeId} {size : Nat} {xs : List Value} (h : St w0 w R Q) (hr : (⟨.slice (some ⟨g, 0, none⟩) n cap, e, size, n, xs⟩ : Row) ∈ R) {j : Nat} {u : Value} (hj : xs[j]? = some u) : w.cell? ⟨g, j, none⟩ = some u := by
  have := (h.own _ hr).cells (g := g) rfl j u hj
  rw [Addr.add_lit, Nat.zero_add] at this
  exact this

/-- What a piece of a row holds. -/
theorem St.rcells {w0 w : World} {R : List Row} {Q : List Rd} {g n cap : Nat} {e : TypeId} {size : Nat} {xs ys zs cs : List Value} (h : St w0 w R Q) (hr : (⟨.slice (some ⟨g, 0, none⟩) n cap, e, size, n, xs⟩ : Row) ∈ R) {j : Nat} (hx : xs = ys ++ cs ++ zs) (hj : ys.length = j) :
    ∀ i u, cs[i]? = some u → w.cell? ⟨g, j + i, none⟩ = some u := by
  intro i u hu
  refine h.rcell hr ?_
  subst hx hj
  have hi := (List.getElem?_eq_some_iff.1 hu).1
  rw [List.append_assoc, List.getElem?_append_right (by omega), List.getElem?_append_left (by omega), show ys.length + i - ys.length = i by omega]
  exact hu
end Go.Mx
