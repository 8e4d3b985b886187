/- Walks of sha: the turn of a word, the schedule. -/
import Derived.Test.YtobpojlophhfaaaDoorBase
import Derived.Test.YtobpojlophhfaaaDoorShaW
namespace Go.Proofs.YtobpojlophhfaaaDoor
open Go.RowKit Go.Mx

theorem rotl2_any (x : U32) (w : World) :
    Calls Tryd.prog 110 #[.int .u32 (x.toNat : Int), .int .i64 (-2)] w fun e w' => e = .returned (.int .u32 ((rotr x 2).toNat : Int)) ∧ w = w' := by
  have e1 : bits BinOp.and IntKind.u64 (IntKind.u64.wrap (-2)) 31 = 30 := by decide
  go_enter Tryd.func110, Tryd.ntmps110
  go_wp2_with fail
  go_ret
  refine ⟨?_, rfl⟩
  have h1 := w_shl x 30
  have h2 := w_shr x 2
  have h3 := w_or (x <<< 30) (x >>> 2)
  rw [← h1, ← h2] at h3
  have h4 : rotr x 2 = (x <<< 30) ||| (x >>> 2) := BitVec.or_comm _ _
  rw [h4]
  first | exact congrArg (fun z => Ending.returned (.int .u32 z)) h3 | (simp; exact h3) | trace_state
theorem rotl6_any (x : U32) (w : World) :
    Calls Tryd.prog 110 #[.int .u32 (x.toNat : Int), .int .i64 (-6)] w fun e w' => e = .returned (.int .u32 ((rotr x 6).toNat : Int)) ∧ w = w' := by
  have e1 : bits BinOp.and IntKind.u64 (IntKind.u64.wrap (-6)) 31 = 26 := by decide
  go_enter Tryd.func110, Tryd.ntmps110
  go_wp2_with fail
  go_ret
  refine ⟨?_, rfl⟩
  have h1 := w_shl x 26
  have h2 := w_shr x 6
  have h3 := w_or (x <<< 26) (x >>> 6)
  rw [← h1, ← h2] at h3
  have h4 : rotr x 6 = (x <<< 26) ||| (x >>> 6) := BitVec.or_comm _ _
  rw [h4]
  first | exact congrArg (fun z => Ending.returned (.int .u32 z)) h3 | (simp; exact h3) | trace_state
theorem rotl7_any (x : U32) (w : World) :
    Calls Tryd.prog 110 #[.int .u32 (x.toNat : Int), .int .i64 (-7)] w fun e w' => e = .returned (.int .u32 ((rotr x 7).toNat : Int)) ∧ w = w' := by
  have e1 : bits BinOp.and IntKind.u64 (IntKind.u64.wrap (-7)) 31 = 25 := by decide
  go_enter Tryd.func110, Tryd.ntmps110
  go_wp2_with fail
  go_ret
  refine ⟨?_, rfl⟩
  have h1 := w_shl x 25
  have h2 := w_shr x 7
  have h3 := w_or (x <<< 25) (x >>> 7)
  rw [← h1, ← h2] at h3
  have h4 : rotr x 7 = (x <<< 25) ||| (x >>> 7) := BitVec.or_comm _ _
  rw [h4]
  first | exact congrArg (fun z => Ending.returned (.int .u32 z)) h3 | (simp; exact h3) | trace_state
theorem rotl11_any (x : U32) (w : World) :
    Calls Tryd.prog 110 #[.int .u32 (x.toNat : Int), .int .i64 (-11)] w fun e w' => e = .returned (.int .u32 ((rotr x 11).toNat : Int)) ∧ w = w' := by
  have e1 : bits BinOp.and IntKind.u64 (IntKind.u64.wrap (-11)) 31 = 21 := by decide
  go_enter Tryd.func110, Tryd.ntmps110
  go_wp2_with fail
  go_ret
  refine ⟨?_, rfl⟩
  have h1 := w_shl x 21
  have h2 := w_shr x 11
  have h3 := w_or (x <<< 21) (x >>> 11)
  rw [← h1, ← h2] at h3
  have h4 : rotr x 11 = (x <<< 21) ||| (x >>> 11) := BitVec.or_comm _ _
  rw [h4]
  first | exact congrArg (fun z => Ending.returned (.int .u32 z)) h3 | (simp; exact h3) | trace_state
theorem rotl13_any (x : U32) (w : World) :
    Calls Tryd.prog 110 #[.int .u32 (x.toNat : Int), .int .i64 (-13)] w fun e w' => e = .returned (.int .u32 ((rotr x 13).toNat : Int)) ∧ w = w' := by
  have e1 : bits BinOp.and IntKind.u64 (IntKind.u64.wrap (-13)) 31 = 19 := by decide
  go_enter Tryd.func110, Tryd.ntmps110
  go_wp2_with fail
  go_ret
  refine ⟨?_, rfl⟩
  have h1 := w_shl x 19
  have h2 := w_shr x 13
  have h3 := w_or (x <<< 19) (x >>> 13)
  rw [← h1, ← h2] at h3
  have h4 : rotr x 13 = (x <<< 19) ||| (x >>> 13) := BitVec.or_comm _ _
  rw [h4]
  first | exact congrArg (fun z => Ending.returned (.int .u32 z)) h3 | (simp; exact h3) | trace_state
theorem rotl17_any (x : U32) (w : World) :
    Calls Tryd.prog 110 #[.int .u32 (x.toNat : Int), .int .i64 (-17)] w fun e w' => e = .returned (.int .u32 ((rotr x 17).toNat : Int)) ∧ w = w' := by
  have e1 : bits BinOp.and IntKind.u64 (IntKind.u64.wrap (-17)) 31 = 15 := by decide
  go_enter Tryd.func110, Tryd.ntmps110
  go_wp2_with fail
  go_ret
  refine ⟨?_, rfl⟩
  have h1 := w_shl x 15
  have h2 := w_shr x 17
  have h3 := w_or (x <<< 15) (x >>> 17)
  rw [← h1, ← h2] at h3
  have h4 : rotr x 17 = (x <<< 15) ||| (x >>> 17) := BitVec.or_comm _ _
  rw [h4]
  first | exact congrArg (fun z => Ending.returned (.int .u32 z)) h3 | (simp; exact h3) | trace_state
theorem rotl18_any (x : U32) (w : World) :
    Calls Tryd.prog 110 #[.int .u32 (x.toNat : Int), .int .i64 (-18)] w fun e w' => e = .returned (.int .u32 ((rotr x 18).toNat : Int)) ∧ w = w' := by
  have e1 : bits BinOp.and IntKind.u64 (IntKind.u64.wrap (-18)) 31 = 14 := by decide
  go_enter Tryd.func110, Tryd.ntmps110
  go_wp2_with fail
  go_ret
  refine ⟨?_, rfl⟩
  have h1 := w_shl x 14
  have h2 := w_shr x 18
  have h3 := w_or (x <<< 14) (x >>> 18)
  rw [← h1, ← h2] at h3
  have h4 : rotr x 18 = (x <<< 14) ||| (x >>> 18) := BitVec.or_comm _ _
  rw [h4]
  first | exact congrArg (fun z => Ending.returned (.int .u32 z)) h3 | (simp; exact h3) | trace_state
theorem rotl19_any (x : U32) (w : World) :
    Calls Tryd.prog 110 #[.int .u32 (x.toNat : Int), .int .i64 (-19)] w fun e w' => e = .returned (.int .u32 ((rotr x 19).toNat : Int)) ∧ w = w' := by
  have e1 : bits BinOp.and IntKind.u64 (IntKind.u64.wrap (-19)) 31 = 13 := by decide
  go_enter Tryd.func110, Tryd.ntmps110
  go_wp2_with fail
  go_ret
  refine ⟨?_, rfl⟩
  have h1 := w_shl x 13
  have h2 := w_shr x 19
  have h3 := w_or (x <<< 13) (x >>> 19)
  rw [← h1, ← h2] at h3
  have h4 : rotr x 19 = (x <<< 13) ||| (x >>> 19) := BitVec.or_comm _ _
  rw [h4]
  first | exact congrArg (fun z => Ending.returned (.int .u32 z)) h3 | (simp; exact h3) | trace_state
theorem rotl22_any (x : U32) (w : World) :
    Calls Tryd.prog 110 #[.int .u32 (x.toNat : Int), .int .i64 (-22)] w fun e w' => e = .returned (.int .u32 ((rotr x 22).toNat : Int)) ∧ w = w' := by
  have e1 : bits BinOp.and IntKind.u64 (IntKind.u64.wrap (-22)) 31 = 10 := by decide
  go_enter Tryd.func110, Tryd.ntmps110
  go_wp2_with fail
  go_ret
  refine ⟨?_, rfl⟩
  have h1 := w_shl x 10
  have h2 := w_shr x 22
  have h3 := w_or (x <<< 10) (x >>> 22)
  rw [← h1, ← h2] at h3
  have h4 : rotr x 22 = (x <<< 10) ||| (x >>> 22) := BitVec.or_comm _ _
  rw [h4]
  first | exact congrArg (fun z => Ending.returned (.int .u32 z)) h3 | (simp; exact h3) | trace_state
theorem rotl25_any (x : U32) (w : World) :
    Calls Tryd.prog 110 #[.int .u32 (x.toNat : Int), .int .i64 (-25)] w fun e w' => e = .returned (.int .u32 ((rotr x 25).toNat : Int)) ∧ w = w' := by
  have e1 : bits BinOp.and IntKind.u64 (IntKind.u64.wrap (-25)) 31 = 7 := by decide
  go_enter Tryd.func110, Tryd.ntmps110
  go_wp2_with fail
  go_ret
  refine ⟨?_, rfl⟩
  have h1 := w_shl x 7
  have h2 := w_shr x 25
  have h3 := w_or (x <<< 7) (x >>> 25)
  rw [← h1, ← h2] at h3
  have h4 : rotr x 25 = (x <<< 7) ||| (x >>> 25) := BitVec.or_comm _ _
  rw [h4]
  first | exact congrArg (fun z => Ending.returned (.int .u32 z)) h3 | (simp; exact h3) | trace_state
end Go.Proofs.YtobpojlophhfaaaDoor
