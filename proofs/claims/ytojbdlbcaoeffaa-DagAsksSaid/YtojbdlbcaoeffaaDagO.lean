/- Walk of slices.SortStableFunc; of dag.Order's comparing closure. -/
import Derived.Test.YtojbdlbcaoeffaaStd
import Derived.Test.YtojbdlbcaoeffaaDagM
import Derived.Test.YtojbdlbcaoeffaaRegC
namespace Go.Mx
open Go Go.RowKit
/-- A commit's stamp; nought where it is not there. -/
def sV (L : List Nd) (k : ByteArray) : Int := match fnd L k with | some n => n.2 | none => 0
end Go.Mx
namespace Go.Proofs.Ytojbdlbcaoeffaa
open Go.RowKit Go.Mx

theorem get_sV (G : List Gd) (k : ByteArray) : ∃ pv, (mget (G.map gent) k).getD ndZ = .agg #[pv, .int .i64 (sV (G.map (·.2)) k)] := by
  rw [mget_g]
  unfold sV
  rw [gfnd_fnd]
  cases gfnd G k with
  | none => exact ⟨_, rfl⟩
  | some q => exact ⟨_, rfl⟩
theorem cmp_g (gp g B : Nat) (G : List Gd) (a b : ByteArray) (w : World) (h : GR w g B G) (c : w.cell? ⟨gp, 0, none⟩ = some (.pointer (some ⟨g, 0, none⟩))) (hb : ∀ k, 0 ≤ sV (G.map (·.2)) k ∧ sV (G.map (·.2)) k ≤ 9223372036854775807) :
    Calls Try.prog 41 #[.string a, .string b, .pointer (some ⟨gp, 0, none⟩)] w fun e w' => e = .returned (.int .i64 (sV (G.map (·.2)) b - sV (G.map (·.2)) a)) ∧ St w w' [] [] := by
  obtain ⟨pa, ha⟩ := get_sV G a
  obtain ⟨pb, hbb⟩ := get_sV G b
  have HG := Mx.hid (fun wx (hs : St w wx [] []) => h.st hs)
  obtain ⟨a1, a2⟩ := hb a
  obtain ⟨b1, b2⟩ := hb b
  have HLA := Mx.hid (fun wx (hs : St w wx [] []) => (show (Instr.lookup 62 (.map (some B)) (.string a) false).run Try.prog wx = .ok (.agg #[pa, .int .i64 (sV (G.map (·.2)) a)]) wx by rw [← ha]; exact run_look Try.underlying62 Try.underlying9 Try.zeroNd (h.st hs).mp a false))
  have HLB := Mx.hid (fun wx (hs : St w wx [] []) => (show (Instr.lookup 62 (.map (some B)) (.string b) false).run Try.prog wx = .ok (.agg #[pb, .int .i64 (sV (G.map (·.2)) b)]) wx by rw [← hbb]; exact run_look Try.underlying62 Try.underlying9 Try.zeroNd (h.st hs).mp b false))
  generalize sV (G.map (·.2)) a = sa at *
  generalize sV (G.map (·.2)) b = sb at *
  have hw : IntKind.i64.wrap (sb - sa) = sb - sa := IntWalk.i64_in _ (by omega)
  have kf := Try.fldS
  have hs := St.refl w
  clear h ha hbb hb
  go_enter Try.func41, Try.ntmps41
  go_wp2_with fail
  refine wp_region_C (fun W' => St w W' [] []) (by kernel_rfl) (by kernel_rfl) (by exact hs.drew) ?_
  repeat ((first | (refine cq_y0 (v := ?_) (by with_reducible rfl) ?_ ?_; rotate_left 1; (focus (intro wq hq; (try dsimp only at hq); (have y1 := hq.keep c; have y2 := (HG.out _ hq).cell; have y3 := HLA.out _ hq; have y4 := HLB.out _ hq); go_simp; (first | done | with_reducible rfl | fail)))) | (refine cq_no (by go_simp; first | done | (intro h9; cases h9)) ?_) | (refine cq_yes (v := ?_) (by go_simp) ?_ ?_; rotate_left 1; (focus (intro wq hq; (try dsimp only at hq); (have y1 := hq.keep c; have y2 := (HG.out _ hq).cell; have y3 := HLA.out _ hq; have y4 := HLB.out _ hq); go_simp; (first | done | with_reducible rfl | fail))))); (try simp only [Act.put, List.setIfInBounds_toArray, List.set_cons_zero, List.set_cons_succ]))
  refine cq_nil ?_
  intro wq hq
  (try dsimp only at hq)
  go_wp2_with fail
  go_ret
  exact ⟨rfl, hq⟩
theorem sortStable_any (w0 w : World) (g N cap gp : Nat) (Q : List Rd) (f : ByteArray → Int) (hc : CmpOK w0 gp f) (l : List ByteArray) (hs : St w0 w [srow g N cap l] Q) (hN : l.length = N) (h40 : N ≤ 40) :
    Calls Try.prog 40 #[.slice (some ⟨g, 0, none⟩) N cap, .func (Fn.func 41) #[] #[.pointer (some ⟨gp, 0, none⟩)]] w (MovPost w0 g N cap Q f l 0 N) := by
  have HS := Mx.hid (stable_any w0 w g N cap gp Q f hc l hs hN h40)
  clear hc hs hN
  go_enter Try.func40, Try.ntmps40
  go_wp2_with fail
  refine HS.out.mono ?_
  rintro e w2 ⟨l2, rfl, hs2, hmv, hrz⟩
  have HM := Mx.hid (And.intro hmv hrz)
  clear hmv hrz
  go_wp2_with fail
  go_end0
  exact ⟨l2, rfl, hs2, HM.out.1, HM.out.2⟩
end Go.Proofs.Ytojbdlbcaoeffaa
