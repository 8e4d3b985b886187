/- What a deletion leaves; clear, ranges over maps: laws of the walk. -/
import Derived.Test.YtojbdlbcaoeffaaMapM
import Derived.Test.YtojbdlbcaoeffaaMet
import Derived.Test.YtojbdlbcaoeffaaSrtG
import Derived.Lib.SliceRun
namespace Go.Mx
open Go Go.RowKit
/-- clear(s[i:]), s the head row. -/
theorem wpl_clear {P : Program} {w0 w : World} {R : List Row} {Qs : List Rd} {ops : Array Oper} {rest : List Oper} {o : Oper} {a : Act} {Q : Exit → Act → World → Prop} (hgd : o.guard = none) (t : TypeId) (x : Operand)
    (ho : o.op = .call { callee := .builtin .clear, args := #[x], argTypes := #[t] }) {e : TypeId} {z : Value} (ht : P.underlying t = some (.slice e)) (hz : ∀ w, (zeroValue e).run P w = .ok z w) (hzc : z.cells = #[z]) (h1 : z.oneCell' = true)
    {g n cap : Nat} {xs : List Value} (hst : St w0 w (⟨.slice (some ⟨g, 0, none⟩) n cap, e, 1, n, xs⟩ :: R) Qs) (i c : Nat) (hi : i < n) (hx : a.eval x = .slice (some ⟨g, i, none⟩) (n - i) c)
    (h : ∀ w', St w0 w' (⟨.slice (some ⟨g, 0, none⟩) n cap, e, 1, n, xs.take i ++ List.replicate (n - i) z⟩ :: R) Qs → wpList P ops Q rest (a.put o.dst (.tuple #[])) w') : wpList P ops Q (o :: rest) a w := by
  refine wpList_plain hgd fun K hK => ?_
  have hxl : xs.length = n := by have := (hst.own _ (List.mem_cons_self ..)).1; simpa using this
  obtain ⟨w', hr, h2⟩ := hst.store (P := P) i (List.replicate (n - i) z) (by simp; omega) (by intro u hu; rw [List.eq_of_mem_replicate hu]; exact h1)
  have hzc2 : (Builtin.zeroCells z.cells (n - i)).toList = List.replicate (n - i) z := by
    rw [hzc]
    simp [Builtin.zeroCells]
    apply List.ext_getElem
    · simp
    · intro j h1 h2
      simp [Nat.mod_one]
  obtain ⟨m, hm⟩ : ∃ m, n - i = m + 1 := ⟨n - i - 1, by omega⟩
  unfold Oper.wp execOp
  simp only [ho, resolve, invoke, builtin, Sem.run_bind, Sem.run_pure, Result.andThen_ok, List.map_toArray, List.map_cons, List.map_nil, hx]
  rw [hm] at hzc2 hr ⊢
  simp [Builtin.clear_, run_underlying ht, hz, hzc2, hr]
  refine hK _ _ (h w' ?_)
  rw [hm]
  rw [show xs.drop (i + (List.replicate (n - i) z).length) = [] from List.drop_eq_nil_of_le (by simp; omega), List.append_nil, hm] at h2
  exact h2
theorem wpl_mrange {P : Program} {w : World} {ops : Array Oper} {rest : List Oper} {o : Oper} {a : Act} {Q : Exit → Act → World → Prop} (hgd : o.guard = none) (t : TypeId) (m : Operand) (ho : o.op = .range t m)
    {kt et : TypeId} (ht : P.underlying t = some (.map kt et)) {b : Nat} {l : List Ent} (hm : Mp w b l) (hme : a.eval m = .map (some b))
    (h : ∀ w', Rg w' w.heap.size b l l → Below w.heap.size w w' → w'.heap.size = w.heap.size + 1 → wpList P ops Q rest (a.put o.dst (.pointer (some ⟨w.heap.size, 0, none⟩))) w') : wpList P ops Q (o :: rest) a w := by
  refine wpList_plain hgd fun K hK => ?_
  obtain ⟨w', hr, h1, h2, h3⟩ := run_mrange (P := P) ht hm
  unfold Oper.wp execOp
  simp only [ho, hme, Sem.run_bind, hr, Result.andThen_ok, Sem.run_pure]
  exact hK _ _ (h w' h1 h2 h3)
theorem cell_grown {w w' : World} {b g j : Nat} {v : Value} (h : w.cell? ⟨g, j, none⟩ = some v) (hg : w.grownBy w' (some b)) (hne : g ≠ b) : w'.cell? ⟨g, j, none⟩ = some v := by
  rw [← h]
  have hlt : g < w.heap.size := World.block_lt_of_cell? w _ h
  exact World.cell?_of_block (hg.block g hlt (fun e => hne (Option.some.inj e)))
/-- What is left of a list without those. -/
def outL (K l : List ByteArray) : List ByteArray := l.filter fun x => !memB K x
def IdxPost (K l : List ByteArray) (w : World) (e : Ending) (w' : World) : Prop :=
  ((∃ i : Nat, e = .returned (.int .i64 (i : Int)) ∧ i < l.length ∧ outL K (l.take (i + 1)) = l.take i) ∨ (e = .returned (.int .i64 (-1)) ∧ outL K l = l)) ∧ w = w'
theorem outL_snoc (K : List ByteArray) {l : List ByteArray} {i : Nat} (h : i < l.length) : outL K (l.take (i + 1)) = outL K (l.take i) ++ if memB K l[i] = true then [] else [l[i]] := by
  unfold outL
  rw [List.take_succ_eq_append_getElem h, List.filter_append]
  congr 1
  cases hm : memB K l[i] <;> simp [hm]
theorem outL_len (K l : List ByteArray) : (outL K l).length ≤ l.length := List.length_filter_le _ _
theorem mem_outL {K l : List ByteArray} {x : ByteArray} : x ∈ outL K l ↔ x ∈ l ∧ x ∉ K := by
  unfold outL
  rw [List.mem_filter]
  refine and_congr_right fun _ => ?_
  rw [← memB_iff]
  simp
theorem drop_get {c l : List ByteArray} {j : Nat} (h : c.drop j = l.drop j) (hj : j < l.length) (hc : j < c.length) : c[j] = l[j] ∧ c.drop (j + 1) = l.drop (j + 1) := by
  rw [List.drop_eq_getElem_cons hj, List.drop_eq_getElem_cons hc] at h
  exact List.cons.inj h
theorem set_mid {c : List ByteArray} {i j : Nat} (x : ByteArray) (hi : i < c.length) (hij : i < j) : (c.take i ++ [x] ++ c.drop (i + 1)).length = c.length ∧ (c.take i ++ [x] ++ c.drop (i + 1)).take (i + 1) = c.take i ++ [x] ∧ (c.take i ++ [x] ++ c.drop (i + 1)).drop (j + 1) = c.drop (j + 1) := by
  have h1 : (c.take i ++ [x]).length = i + 1 := by simp; omega
  refine ⟨by simp; omega, ?_, ?_⟩
  · rw [← h1, List.take_left]
  · obtain ⟨m, hm⟩ : ∃ m, j + 1 = (c.take i ++ [x]).length + m := ⟨j - i, by omega⟩
    rw [hm, List.drop_length_add_append, List.drop_drop]
    congr 1
    omega
end Go.Mx
