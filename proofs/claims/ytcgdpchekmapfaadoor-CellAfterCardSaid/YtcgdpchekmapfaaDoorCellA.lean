/- Walks of sync/atomic's methods as package cell calls them. -/
import Derived.Test.YtcgdpchekmapfaaDoorShaH
import Derived.Lib.Builder
namespace Go.Mx
open Go Go.RowKit
variable {P : Program} {f : Nat} {fn : Func}

theorem run_call_load_ptr (hf : P.funcs[f]? = some fn) (hname : (fn.name == "runtime.NumGoroutine") = false) (hb : fn.body.isNone = true) (hn : Extern.findNext fn = none)
    (he : Extern.find fn = some (Extern.Atomic.loadT .ptr)) {a : Addr} {x : Option Addr} {w : World} (hc : w.cell? a = some (.pointer x)) :
    (callFunc f #[.pointer (some a)]).run P w = .ok (.value (.pointer x)) w := by
  rw [run_callFunc_extern hf hname hb hn he]
  change (Sem.run P (do Extern.Atomic.read .ptr (← asAddr (.pointer (some a)))) w).andThen _ = _
  simp [Extern.Atomic.read, asAddr, hc, Result.andThen]

theorem run_call_store_ptr (hf : P.funcs[f]? = some fn) (hname : (fn.name == "runtime.NumGoroutine") = false) (hb : fn.body.isNone = true) (hn : Extern.findNext fn = none)
    (he : Extern.find fn = some Extern.Atomic.storeT) {a : Addr} {y : Option Addr} {u : Value} {w : World} (hc : w.cell? a = some u) (hz : w.frozen? a = false) :
    (callFunc f #[.pointer (some a), .pointer y]).run P w = .ok (.value (.tuple #[])) (w.setCell a (.pointer y)) := by
  rw [run_callFunc_extern hf hname hb hn he]
  change (Sem.run P (do
    store (← asAddr (.pointer (some a))) (.pointer y) .atomic
    pure Extern.Atomic.none_) w).andThen _ = _
  simp [asAddr, hc, hz, run_store P w a (.pointer y) .atomic rfl, Result.andThen, Extern.Atomic.none_]

theorem run_call_swap_ptr (hf : P.funcs[f]? = some fn) (hname : (fn.name == "runtime.NumGoroutine") = false) (hb : fn.body.isNone = true) (hn : Extern.findNext fn = none)
    (he : Extern.find fn = some (Extern.Atomic.swapT .ptr)) {a : Addr} {x y : Option Addr} {w : World} (hc : w.cell? a = some (.pointer x)) (hz : w.frozen? a = false) :
    (callFunc f #[.pointer (some a), .pointer y]).run P w = .ok (.value (.pointer x)) (w.setCell a (.pointer y)) := by
  rw [run_callFunc_extern hf hname hb hn he]
  change (Sem.run P (do
    let a' ← asAddr (.pointer (some a))
    let old ← Extern.Atomic.read .ptr a'
    store a' (.pointer y) .atomic
    pure old) w).andThen _ = _
  simp [Extern.Atomic.read, asAddr, hc, hz, run_store P w a (.pointer y) .atomic rfl, Result.andThen]

theorem run_call_cas_ptr (hf : P.funcs[f]? = some fn) (hname : (fn.name == "runtime.NumGoroutine") = false) (hb : fn.body.isNone = true) (hn : Extern.findNext fn = none)
    (he : Extern.find fn = some (Extern.Atomic.casT .ptr)) {a x : Addr} {y : Option Addr} {w : World} (hc : w.cell? a = some (.pointer (some x))) (hz : w.frozen? a = false) :
    (callFunc f #[.pointer (some a), .pointer (some x), .pointer y]).run P w = .ok (.value (.bool true)) (w.setCell a (.pointer y)) := by
  rw [run_callFunc_extern hf hname hb hn he]
  change (Sem.run P (do
    let a' ← asAddr (.pointer (some a))
    if ← Extern.Atomic.touchesFrozen a' then unsupported (.unsafePointer "a write to bytes that a string shares")
    let eq ← match Extern.Atomic.T.ptr, ← Extern.Atomic.read .ptr a', Value.pointer (some x) with
      | _, .int _ x, .int _ y => pure (x == y)
      | .ptr, .pointer x, .pointer y => samePointer x y
      | .int _, .pointer (some _), .int _ 0 | .int _, .int _ 0, .pointer (some _) => pure false
      | .int _, .pointer (some _), _ | .int _, _, .pointer (some _) => unsupported .addressObserved
      | _, _, _ => stuck "atomic.CompareAndSwap: old is no T"
    if eq then store a' (.pointer y) .atomic
    pure (Value.bool eq)) w).andThen _ = _
  obtain ⟨e, n, hsh, hlt, hsp⟩ := World.shape?_of_cell? hc
  simp [Extern.Atomic.touchesFrozen, Extern.Atomic.read, asAddr, viewAt, hsh, hc, hz, samePointer, sameAddr, run_store P w a (.pointer y) .atomic rfl, Result.andThen]

/-- The shape of the block of a row of the call's own. -/
theorem St.shape {w0 w : World} {R : List Row} {Q : List Rd} {g cap : Nat} {e : TypeId} {size : Nat} {xs : List Value} (h : St w0 w (⟨.slice (some ⟨g, 0, none⟩) 1 cap, e, size, 1, xs⟩ :: R) Q) : ∃ n, w.shape? g = some (e, n) ∧ n = cap * size := by
  have ho := h.own _ (List.mem_cons_self ..)
  rcases ho.2 with ⟨h2, _⟩ | ⟨g', cap', cur, fr, hv, hb, hg, hfr, hn, hm, hs, htake⟩
  · cases h2
  · obtain ⟨rfl, rfl⟩ : g = g' ∧ cap = cap' := by simp at hv; exact hv
    exact ⟨cur.size, by simp only [] at hg; simp [World.shape?, hg], hs⟩
end Go.Mx
namespace Go.Proofs.YtcgdpchekmapfaaDoor
open Go.RowKit Go.Mx

theorem iload_any (g j : Nat) (x : Int) (w : World) (hc : w.cell? ⟨g, j, none⟩ = some (.int .i64 x)) :
    Calls Tryd.prog 63 #[.pointer (some ⟨g, j, none⟩)] w fun e w' => e = .returned (.int .i64 x) ∧ w = w' := by
  have hl := run_call_load (P := Tryd.prog) Tryd.func85 (by kernel_rfl) (by kernel_rfl) (by kernel_rfl) .i64 (by kernel_rfl) hc
  go_enter Tryd.func63, Tryd.ntmps63
  go_wp2_with fail
  go_ret
  exact ⟨rfl, rfl⟩

theorem iadd_any (g j : Nat) (x y : Int) (w : World) (hc : w.cell? ⟨g, j, none⟩ = some (.int .i64 x)) (hz : w.frozen? ⟨g, j, none⟩ = false) :
    Calls Tryd.prog 62 #[.pointer (some ⟨g, j, none⟩), .int .i64 y] w fun e w' => e = .returned (.int .i64 (wrap64 (x + y))) ∧ w' = w.setCell ⟨g, j, none⟩ (.int .i64 (wrap64 (x + y))) := by
  have hl := run_call_add (P := Tryd.prog) Tryd.func84 (by kernel_rfl) (by kernel_rfl) (by kernel_rfl) .i64 (by kernel_rfl) (y := y) (s := wrap64 (x + y)) hc hz (by simp [go_sem, wrap64, IntKind.wrap_i64])
  go_enter Tryd.func62, Tryd.ntmps62
  go_wp2_with fail
  go_ret
  exact ⟨rfl, rfl⟩
theorem icas_any (g j : Nat) (x y : Int) (w : World) (hc : w.cell? ⟨g, j, none⟩ = some (.int .i64 x)) (hz : w.frozen? ⟨g, j, none⟩ = false) :
    Calls Tryd.prog 68 #[.pointer (some ⟨g, j, none⟩), .int .i64 x, .int .i64 y] w fun e w' => e = .returned (.bool true) ∧ w' = w.setCell ⟨g, j, none⟩ (.int .i64 y) := by
  have hl := run_call_cas_hit (P := Tryd.prog) Tryd.func90 (by kernel_rfl) (by kernel_rfl) (by kernel_rfl) .i64 (by kernel_rfl) (y := y) hc hz
  go_enter Tryd.func68, Tryd.ntmps68
  go_wp2_with fail
  go_ret
  exact ⟨rfl, rfl⟩
theorem to_unsafe {w : World} (g : Nat) {e : TypeId} {n : Nat} (hsh : w.shape? g = some (e, n)) (hn : 0 < n) : (convert 112 114 (.pointer (some ⟨g, 0, none⟩))).run Tryd.prog w = .ok (.pointer (some ⟨g, 0, none⟩)) w := by
  obtain ⟨i, h1, h2⟩ : ∃ i, Tryd.prog.info? 9 = some i ∧ i.size ≠ 0 := by
    obtain ⟨i, hi, he⟩ := Option.map_eq_some_iff.1 (show (Tryd.prog.info? 9).map (·.size) = some 1 by kernel_rfl)
    exact ⟨i, hi, by omega⟩
  exact Lib.run_to_unsafe w ⟨g, 0, none⟩ Tryd.underlying112 Tryd.underlying114 h1 h2 hsh hn
theorem from_unsafe {w : World} (g : Nat) (hsh : w.shape? g = some (9, 1)) : (convert 114 112 (.pointer (some ⟨g, 0, none⟩))).run Tryd.prog w = .ok (.pointer (some ⟨g, 0, none⟩)) w := by
  obtain ⟨i, h1, h2⟩ := Option.map_eq_some_iff.1 (show (Tryd.prog.info? 9).map (·.size) = some 1 by kernel_rfl)
  exact Lib.run_from_unsafe w ⟨g, 0, none⟩ Tryd.underlying114 Tryd.underlying112 h1 hsh (by kernel_rfl)

theorem pload_any (g p : Nat) (w : World) (hc : w.cell? ⟨g, 0, none⟩ = some (.pointer (some ⟨p, 0, none⟩))) (hsh : w.shape? p = some (9, 1)) :
    Calls Tryd.prog 65 #[.pointer (some ⟨g, 0, none⟩)] w fun e w' => e = .returned (.pointer (some ⟨p, 0, none⟩)) ∧ w = w' := by
  have hl := run_call_load_ptr (P := Tryd.prog) Tryd.func87 (by kernel_rfl) (by kernel_rfl) (by kernel_rfl) (by kernel_rfl) hc
  have hv := from_unsafe p hsh
  go_enter Tryd.func65, Tryd.ntmps65
  go_wp2_with fail
  go_ret
  exact ⟨rfl, rfl⟩
theorem pstore_any (g p : Nat) (u : Value) (w : World) (hc : w.cell? ⟨g, 0, none⟩ = some u) (hz : w.frozen? ⟨g, 0, none⟩ = false) (hsh : w.shape? p = some (9, 1)) :
    Calls Tryd.prog 64 #[.pointer (some ⟨g, 0, none⟩), .pointer (some ⟨p, 0, none⟩)] w fun e w' => e = .returned (.tuple #[]) ∧ w' = w.setCell ⟨g, 0, none⟩ (.pointer (some ⟨p, 0, none⟩)) := by
  have hl := run_call_store_ptr (P := Tryd.prog) Tryd.func86 (by kernel_rfl) (by kernel_rfl) (by kernel_rfl) (by kernel_rfl) (y := some ⟨p, 0, none⟩) hc hz
  have hv := to_unsafe p hsh (by omega)
  go_enter Tryd.func64, Tryd.ntmps64
  go_wp2_with fail
  go_end0
  exact ⟨rfl, rfl⟩
theorem pswap_any (g p q : Nat) (w : World) (hc : w.cell? ⟨g, 0, none⟩ = some (.pointer (some ⟨q, 0, none⟩))) (hz : w.frozen? ⟨g, 0, none⟩ = false) (hsh : w.shape? p = some (9, 1)) (hsq : (w.setCell ⟨g, 0, none⟩ (.pointer (some ⟨p, 0, none⟩))).shape? q = some (9, 1)) :
    Calls Tryd.prog 67 #[.pointer (some ⟨g, 0, none⟩), .pointer (some ⟨p, 0, none⟩)] w fun e w' => e = .returned (.pointer (some ⟨q, 0, none⟩)) ∧ w' = w.setCell ⟨g, 0, none⟩ (.pointer (some ⟨p, 0, none⟩)) := by
  have hl := run_call_swap_ptr (P := Tryd.prog) Tryd.func89 (by kernel_rfl) (by kernel_rfl) (by kernel_rfl) (by kernel_rfl) (y := some ⟨p, 0, none⟩) hc hz
  have hv := to_unsafe p hsh (by omega)
  have hq := from_unsafe q hsq
  go_enter Tryd.func67, Tryd.ntmps67
  go_wp2_with fail
  go_ret
  exact ⟨rfl, rfl⟩
theorem pcas_any (g p q : Nat) (w : World) (hc : w.cell? ⟨g, 0, none⟩ = some (.pointer (some ⟨q, 0, none⟩))) (hz : w.frozen? ⟨g, 0, none⟩ = false) (hsh : w.shape? p = some (9, 1)) (hsq : w.shape? q = some (9, 1)) :
    Calls Tryd.prog 66 #[.pointer (some ⟨g, 0, none⟩), .pointer (some ⟨q, 0, none⟩), .pointer (some ⟨p, 0, none⟩)] w fun e w' => e = .returned (.bool true) ∧ w' = w.setCell ⟨g, 0, none⟩ (.pointer (some ⟨p, 0, none⟩)) := by
  have hl := run_call_cas_ptr (P := Tryd.prog) Tryd.func88 (by kernel_rfl) (by kernel_rfl) (by kernel_rfl) (by kernel_rfl) (y := some ⟨p, 0, none⟩) hc hz
  have hv := to_unsafe p hsh (by omega)
  have hq := to_unsafe q hsq (by omega)
  go_enter Tryd.func66, Tryd.ntmps66
  go_wp2_with fail
  go_ret
  exact ⟨rfl, rfl⟩
end Go.Proofs.YtcgdpchekmapfaaDoor
