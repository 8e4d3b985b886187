/- Walks of bytes.Clone and the hasher's Write, Len, Copy. -/
import Derived.Test.YtlfdnlomlbbicaaClone
import Derived.Test.YtlfdnlomlbbicaaShaM
import Derived.Test.YtlfdnlomlbbicaaLists
import Derived.Test.YtlfdnlomlbbicaaHeld
import Derived.Lib.LazyBuf
namespace Go.Mx
open Go Go.RowKit
theorem sub_head (a b : Rd) (Q : List Rd) : ∀ q ∈ a :: Q, q ∈ a :: b :: Q := by
  intro q hq
  rcases List.mem_cons.1 hq with rfl | hq
  · exact List.mem_cons_self ..
  · exact List.mem_cons_of_mem _ (List.mem_cons_of_mem _ hq)
/-- A slice that is read, cut. -/
theorem St.cutQ {P : Program} {w0 w : World} {R : List Row} {Q : List Rd} {t e : TypeId} {bytes : Nat} (E : El P t e 1 bytes) {V : Value} {X : List UInt8} (h : St w0 w R (⟨V, 1, X.length, bs X⟩ :: Q)) {k : Nat} (hk : k ≤ X.length) :
    ∃ xo xc, (∀ w', (Instr.sliceAt t V (some (.int .i64 (k : Int))) none none).run P w' = .ok (.slice xo (X.length - k) xc) w') ∧ St w0 w R (⟨.slice xo (X.length - k) xc, 1, (X.drop k).length, bs (X.drop k)⟩ :: Q) := by
  have hV := h.q0
  obtain ⟨ao, cap, rfl, h1, _⟩ := id hV
  refine ⟨_, _, fun w' => run_slice_sl E h1 (some (.int .i64 (k : Int))) none k X.length (.inr ⟨_, rfl⟩) (.inl ⟨rfl, rfl⟩) hk (Nat.le_refl _), ?_⟩
  have hc := hV.cut hk (Nat.le_refl _)
  refine ⟨h.below, h.own, h.sep, fun q hq => ?_, fun q hq r hr hne b hb => ?_⟩
  · rcases List.mem_cons.1 hq with rfl | hq
    · have e1 : ((bs X).take (X.length * 1)).drop (k * 1) = bs (X.drop k) := by rw [bs_cut, List.take_length]
      rw [e1] at hc
      rw [List.length_drop]
      exact hc
    · exact h.rd q (List.mem_cons_of_mem _ hq)
  · rcases List.mem_cons.1 hq with rfl | hq
    · have hX : bs X ≠ [] := by
        intro hx
        refine hne ?_
        have hX : X = [] := by simpa [bs] using hx
        subst hX; simp [bs]
      have := h.apart ⟨.slice ao X.length cap, 1, X.length, bs X⟩ (List.mem_cons_self ..) r hr hX b hb
      intro hx
      refine this ?_
      simp only [] at hx ⊢
      cases ao with
      | none => split at hx <;> simp [Value.ownBlock] at hx
      | some a =>
        split at hx
        · exact hx
        · simp [Value.ownBlock, Addr.add_block] at hx ⊢
          exact hx
    · exact h.apart q (List.mem_cons_of_mem _ hq) r hr hne b hb
end Go.Mx
namespace Go.Proofs.Ytlfdnlomlbbicaa
open Go.RowKit Go.Mx

end Go.Proofs.Ytlfdnlomlbbicaa
