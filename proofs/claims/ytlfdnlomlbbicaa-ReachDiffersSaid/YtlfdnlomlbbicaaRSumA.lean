/- The document's turn and constants; the builtin copy over a row. -/
import Derived.Test.YtlfdnlomlbbicaaShaM
import Derived.Test.YtlfdnlomlbbicaaShaT
namespace Go.Mx
open Go Go.RowKit

/-- copy(dst, src), dst the head row from its place j on, src a slice that reads as cells and fits. -/
theorem wpl_copyS {P : Program} {w0 w : World} {R : List Row} {Qs : List Rd} {ops : Array Oper} {rest : List Oper} {o : Oper} {a : Act} {Q : Exit → Act → World → Prop} (hgd : o.guard = none) (d s : Operand) (dT sT : TypeId)
    (ho : o.op = .call { callee := .builtin .copy, args := #[d, s], argTypes := #[dT, sT] }) {elem : TypeId} (hu : P.underlying dT = some (.slice elem)) (hsz : (P.info? elem).map (·.size) = some 1)
    {g n cap : Nat} {e : TypeId} {size : Nat} {xs : List Value} (hst : St w0 w (⟨.slice (some ⟨g, 0, none⟩) n cap, e, size, n, xs⟩ :: R) Qs) (j dl dc : Nat) (hd : a.eval d = .slice (some ⟨g, j, none⟩) dl dc)
    {m : Nat} {cs : List Value} (hs : Sl w 1 (a.eval s) m cs) (hm : m ≤ dl) (hj : j + cs.length ≤ xs.length) (h1 : ∀ u ∈ cs, u.oneCell' = true)
    (h : ∀ w', St w0 w' (⟨.slice (some ⟨g, 0, none⟩) n cap, e, size, n, xs.take j ++ cs ++ xs.drop (j + cs.length)⟩ :: R) Qs → wpList P ops Q rest (a.put o.dst (goInt m)) w') : wpList P ops Q (o :: rest) a w := by
  refine wpList_plain hgd fun K hK => ?_
  obtain ⟨w', hr, h2⟩ := hst.store (P := P) j cs hj h1
  have hl := lenOf_sl (P := P) hs
  have hf := firstCells_sl (P := P) hs w rfl
  obtain ⟨i, hi, hiz⟩ := Option.map_eq_some_iff.1 hsz
  unfold Oper.wp execOp
  simp only [ho, resolve, invoke, builtin, Sem.run_bind, Sem.run_pure, Result.andThen_ok, List.map_toArray, List.map_cons, List.map_nil, hd]
  simp [Builtin.copy_, run_underlying hu, hl, sizeOf, typeInfo, hi, hiz, Nat.min_eq_left hm, hf, hr]
  exact hK _ _ (h w' h2)
end Go.Mx
namespace Go.Proofs.Ytlfdnlomlbbicaa
open Go.RowKit Go.Mx

theorem turn2_any (x : U32) (w : World) :
    Calls Try.prog 89 #[.int .u32 (x.toNat : Int), .int .i64 2] w fun e w' => e = .returned (.int .u32 ((rotr x 2).toNat : Int)) ∧ ∃ n, w' = w.drewN n := by
  have h1 := w_shl x 30
  have h2 := w_shr x 2
  have h3 := w_or (x >>> 2) (x <<< 30)
  go_enter Try.func89, Try.ntmps89
  go_wp2_with fail
  go_quiet (fail)
  go_wp2_with fail
  go_ret
  rw [← h1, ← h2] at h3
  have h4 : rotr x 2 = (x >>> 2) ||| (x <<< 30) := rfl
  rw [h4]
  refine ⟨?_, _, rfl⟩
  first | exact congrArg (fun z => Ending.returned (.int .u32 z)) h3 | (simp; exact h3) | trace_state
theorem turn6_any (x : U32) (w : World) :
    Calls Try.prog 89 #[.int .u32 (x.toNat : Int), .int .i64 6] w fun e w' => e = .returned (.int .u32 ((rotr x 6).toNat : Int)) ∧ ∃ n, w' = w.drewN n := by
  have h1 := w_shl x 26
  have h2 := w_shr x 6
  have h3 := w_or (x >>> 6) (x <<< 26)
  go_enter Try.func89, Try.ntmps89
  go_wp2_with fail
  go_quiet (fail)
  go_wp2_with fail
  go_ret
  rw [← h1, ← h2] at h3
  have h4 : rotr x 6 = (x >>> 6) ||| (x <<< 26) := rfl
  rw [h4]
  refine ⟨?_, _, rfl⟩
  first | exact congrArg (fun z => Ending.returned (.int .u32 z)) h3 | (simp; exact h3) | trace_state
theorem turn7_any (x : U32) (w : World) :
    Calls Try.prog 89 #[.int .u32 (x.toNat : Int), .int .i64 7] w fun e w' => e = .returned (.int .u32 ((rotr x 7).toNat : Int)) ∧ ∃ n, w' = w.drewN n := by
  have h1 := w_shl x 25
  have h2 := w_shr x 7
  have h3 := w_or (x >>> 7) (x <<< 25)
  go_enter Try.func89, Try.ntmps89
  go_wp2_with fail
  go_quiet (fail)
  go_wp2_with fail
  go_ret
  rw [← h1, ← h2] at h3
  have h4 : rotr x 7 = (x >>> 7) ||| (x <<< 25) := rfl
  rw [h4]
  refine ⟨?_, _, rfl⟩
  first | exact congrArg (fun z => Ending.returned (.int .u32 z)) h3 | (simp; exact h3) | trace_state
theorem turn11_any (x : U32) (w : World) :
    Calls Try.prog 89 #[.int .u32 (x.toNat : Int), .int .i64 11] w fun e w' => e = .returned (.int .u32 ((rotr x 11).toNat : Int)) ∧ ∃ n, w' = w.drewN n := by
  have h1 := w_shl x 21
  have h2 := w_shr x 11
  have h3 := w_or (x >>> 11) (x <<< 21)
  go_enter Try.func89, Try.ntmps89
  go_wp2_with fail
  go_quiet (fail)
  go_wp2_with fail
  go_ret
  rw [← h1, ← h2] at h3
  have h4 : rotr x 11 = (x >>> 11) ||| (x <<< 21) := rfl
  rw [h4]
  refine ⟨?_, _, rfl⟩
  first | exact congrArg (fun z => Ending.returned (.int .u32 z)) h3 | (simp; exact h3) | trace_state
theorem turn13_any (x : U32) (w : World) :
    Calls Try.prog 89 #[.int .u32 (x.toNat : Int), .int .i64 13] w fun e w' => e = .returned (.int .u32 ((rotr x 13).toNat : Int)) ∧ ∃ n, w' = w.drewN n := by
  have h1 := w_shl x 19
  have h2 := w_shr x 13
  have h3 := w_or (x >>> 13) (x <<< 19)
  go_enter Try.func89, Try.ntmps89
  go_wp2_with fail
  go_quiet (fail)
  go_wp2_with fail
  go_ret
  rw [← h1, ← h2] at h3
  have h4 : rotr x 13 = (x >>> 13) ||| (x <<< 19) := rfl
  rw [h4]
  refine ⟨?_, _, rfl⟩
  first | exact congrArg (fun z => Ending.returned (.int .u32 z)) h3 | (simp; exact h3) | trace_state
theorem turn17_any (x : U32) (w : World) :
    Calls Try.prog 89 #[.int .u32 (x.toNat : Int), .int .i64 17] w fun e w' => e = .returned (.int .u32 ((rotr x 17).toNat : Int)) ∧ ∃ n, w' = w.drewN n := by
  have h1 := w_shl x 15
  have h2 := w_shr x 17
  have h3 := w_or (x >>> 17) (x <<< 15)
  go_enter Try.func89, Try.ntmps89
  go_wp2_with fail
  go_quiet (fail)
  go_wp2_with fail
  go_ret
  rw [← h1, ← h2] at h3
  have h4 : rotr x 17 = (x >>> 17) ||| (x <<< 15) := rfl
  rw [h4]
  refine ⟨?_, _, rfl⟩
  first | exact congrArg (fun z => Ending.returned (.int .u32 z)) h3 | (simp; exact h3) | trace_state
theorem turn18_any (x : U32) (w : World) :
    Calls Try.prog 89 #[.int .u32 (x.toNat : Int), .int .i64 18] w fun e w' => e = .returned (.int .u32 ((rotr x 18).toNat : Int)) ∧ ∃ n, w' = w.drewN n := by
  have h1 := w_shl x 14
  have h2 := w_shr x 18
  have h3 := w_or (x >>> 18) (x <<< 14)
  go_enter Try.func89, Try.ntmps89
  go_wp2_with fail
  go_quiet (fail)
  go_wp2_with fail
  go_ret
  rw [← h1, ← h2] at h3
  have h4 : rotr x 18 = (x >>> 18) ||| (x <<< 14) := rfl
  rw [h4]
  refine ⟨?_, _, rfl⟩
  first | exact congrArg (fun z => Ending.returned (.int .u32 z)) h3 | (simp; exact h3) | trace_state
theorem turn19_any (x : U32) (w : World) :
    Calls Try.prog 89 #[.int .u32 (x.toNat : Int), .int .i64 19] w fun e w' => e = .returned (.int .u32 ((rotr x 19).toNat : Int)) ∧ ∃ n, w' = w.drewN n := by
  have h1 := w_shl x 13
  have h2 := w_shr x 19
  have h3 := w_or (x >>> 19) (x <<< 13)
  go_enter Try.func89, Try.ntmps89
  go_wp2_with fail
  go_quiet (fail)
  go_wp2_with fail
  go_ret
  rw [← h1, ← h2] at h3
  have h4 : rotr x 19 = (x >>> 19) ||| (x <<< 13) := rfl
  rw [h4]
  refine ⟨?_, _, rfl⟩
  first | exact congrArg (fun z => Ending.returned (.int .u32 z)) h3 | (simp; exact h3) | trace_state
theorem turn22_any (x : U32) (w : World) :
    Calls Try.prog 89 #[.int .u32 (x.toNat : Int), .int .i64 22] w fun e w' => e = .returned (.int .u32 ((rotr x 22).toNat : Int)) ∧ ∃ n, w' = w.drewN n := by
  have h1 := w_shl x 10
  have h2 := w_shr x 22
  have h3 := w_or (x >>> 22) (x <<< 10)
  go_enter Try.func89, Try.ntmps89
  go_wp2_with fail
  go_quiet (fail)
  go_wp2_with fail
  go_ret
  rw [← h1, ← h2] at h3
  have h4 : rotr x 22 = (x >>> 22) ||| (x <<< 10) := rfl
  rw [h4]
  refine ⟨?_, _, rfl⟩
  first | exact congrArg (fun z => Ending.returned (.int .u32 z)) h3 | (simp; exact h3) | trace_state
theorem turn25_any (x : U32) (w : World) :
    Calls Try.prog 89 #[.int .u32 (x.toNat : Int), .int .i64 25] w fun e w' => e = .returned (.int .u32 ((rotr x 25).toNat : Int)) ∧ ∃ n, w' = w.drewN n := by
  have h1 := w_shl x 7
  have h2 := w_shr x 25
  have h3 := w_or (x >>> 25) (x <<< 7)
  go_enter Try.func89, Try.ntmps89
  go_wp2_with fail
  go_quiet (fail)
  go_wp2_with fail
  go_ret
  rw [← h1, ← h2] at h3
  have h4 : rotr x 25 = (x >>> 25) ||| (x <<< 7) := rfl
  rw [h4]
  refine ⟨?_, _, rfl⟩
  first | exact congrArg (fun z => Ending.returned (.int .u32 z)) h3 | (simp; exact h3) | trace_state

theorem consts_any (w : World) :
    Calls Try.prog 88 #[] w fun e w' => e = .returned (.slice (some ⟨w.heap.size, 0, none⟩) 64 64) ∧ St w w' [⟨.slice (some ⟨w.heap.size, 0, none⟩) 64 64, 104, 1, 64, u32s K64⟩] [] := by
  have hs := (St.refl w).made (u32s K64).toArray 104 1 64 (by rfl) (by simp [maxLen])
  go_enter Try.func88, Try.ntmps88
  go_wp2_with fail
  go_ret
  exact ⟨rfl, hs⟩
end Go.Proofs.Ytlfdnlomlbbicaa
