/- Walks of dag's reach, keys. -/
import Derived.Test.YtojbdlbcaoeffaaDagM
import Derived.Test.YtojbdlbcaoeffaaSrtG
import Derived.Deep.LoopGhost
namespace Go.Mx
open Go Go.RowKit
/-- What reach hands back. -/
def ReachPost (L : List Nd) (ids : List ByteArray) (w : World) (e : Ending) (w' : World) : Prop :=
  (∃ B2 M, e = .returned (.tuple #[.map (some B2), .int .i64 0]) ∧ Mp w' B2 (met M) ∧ w.heap.size ≤ B2 ∧ Clo L ids M ∧ M.Nodup ∧ M.length ≤ 2000 ∧ St w w' [] []) ∨
  (e = .returned (.tuple #[.map none, .int .i64 7]) ∧ (∃ i ∈ ids, fnd L i = none) ∧ St w w' [] [])
theorem RI.sub {L : List Nd} {ids Wk M : List ByteArray} (h : RI L ids Wk M) : M.length ≤ L.length := by
  have := nodup_sub h.d (K := L.map Prod.fst) (fun m hm => by
    obtain ⟨n, hn, _⟩ := h.c m hm
    exact List.mem_map.2 ⟨_, fnd_mem hn, rfl⟩)
  rwa [List.length_map] at this
theorem wsum_le {G : List Gd} (hf : ∀ q ∈ G, q.2.2.1.length ≤ 1000000) : ((G.map (·.2)).map fun n => 1 + n.2.1.length).sum ≤ G.length * 1000001 := by
  induction G with
  | nil => simp
  | cons q G ih =>
    have h1 := ih fun r hr => hf r (List.mem_cons_of_mem _ hr)
    have h2 := hf q (List.mem_cons_self ..)
    simp only [List.map_cons, List.sum_cons, List.length_cons, Nat.succ_mul]
    omega
theorem mu_wk (L : List Nd) (M Wk : List ByteArray) : Wk.length ≤ mu L M Wk := by unfold mu; omega
end Go.Mx
namespace Go.Proofs.Ytojbdlbcaoeffaa
open Go.RowKit Go.Mx

set_option maxRecDepth 100000 in
set_option maxHeartbeats 1000000 in
theorem reach_g (g B : Nat) (G : List Gd) (v : Value) (ids : List ByteArray) (w : World) (h : GR w g B G) (hw : WF (G.map (·.2))) (hv : Sl w 1 v ids.length (ss ids)) (hl : ids.length ≤ 1000000) :
    Calls Try.prog 36 #[.pointer (some ⟨g, 0, none⟩), v] w (ReachPost (G.map (·.2)) ids w) := by
  have HC := Mx.hid (fun w' (hs : St w w' [] []) => sclone_any v ids w' (hs.old hv) (by omega))
  have HH := Mx.hid (fun k w' (hs : St w w' [] []) => has_g g B G k w' (h.st hs))
  have HR := Mx.hid (fun w' (hs : St w w' [] []) => h.st hs)
  have HW := Mx.hid hw
  have HGET := Mx.hid (fun x n (hn : fnd (G.map (·.2)) x = some n) => h.get hn)
  have HF := Mx.hid (And.intro h.few h.len)
  have hmk := @run_makeMap Try.prog
  have HMU := Mx.hid (mu_start (G.map (·.2)) ids)
  obtain ⟨ao, cap, rfl, _⟩ := hv.form
  clear h hw hv
  go_enter Try.func36, Try.ntmps36
  go_wp2_with fail
  refine (HC.out _ ((St.refl w).alloc _)).mono ?_
  rintro e w1 ⟨v1, rfl, hs1⟩
  have HM1 := Mx.hid ((Mp.made w).grow hs1.below)
  replace hs1 := ((St.refl w).alloc _).call1 hs1
  have hl2 : (G.map (·.2)).length ≤ 2000 := by rw [List.length_map]; exact HF.out.2
  have hn0 : ((G.map (·.2)).map fun n => 1 + n.2.1.length).sum + ids.length ≤ 2100000000 := by
    have h1 := wsum_le HF.out.1
    have h2 := HF.out.2
    have h3 : G.length * 1000001 ≤ 2000 * 1000001 := Nat.mul_le_mul_right _ h2
    omega
  have HL2 := Mx.hid hl2
  have HN0 := Mx.hid hn0
  clear hl2 hn0
  obtain ⟨n0, hn00⟩ : ∃ n0, n0 = ((G.map (·.2)).map fun n => 1 + n.2.1.length).sum + ids.length := ⟨_, rfl⟩
  rw [← hn00] at HN0 HMU
  clear hn00
  generalize hb2 : w.heap.size = B2 at *
  have HB2 := Mx.hid hb2
  clear hb2
  go_wp2_with fail
  go_loopg [7] n0 (fun kk x wr => ∃ Wk M : List ByteArray, Hid (mu (G.map (·.2)) M Wk ≤ kk ∧ kk ≤ n0) ∧ Hid (RI (G.map (·.2)) ids Wk M) ∧ Mp wr B2 (met M) ∧ St w wr [⟨x, 9, 1, Wk.length, ss Wk⟩] [])
  case atStart => exact ⟨ids, [], Mx.hid ⟨HMU.out, Nat.le_refl _⟩, Mx.hid (RI.start _ _), HM1.out, hs1⟩
  case round =>
    clear hs1 HM1
    obtain ⟨Wk, M, HK, HI, hm, hs⟩ := hrel
    by_cases hne : Wk = []
    · subst hne
      obtain ⟨xa, xc, rfl, _⟩ := id hs.sl0
      have HD := Mx.hid HI.out.done
      have HM2 := Mx.hid (Nat.le_trans HI.out.sub HL2.out)
      clear HI
      go_wp2_with fail
      go_ret2
      exact .inl ⟨B2, M, rfl, hm, Nat.le_of_eq HB2.out, HD.out.1, HD.out.2, HM2.out, hs.bare⟩
    · obtain ⟨Wk', x, rfl⟩ : ∃ Wk' x, Wk = Wk' ++ [x] := ⟨Wk.dropLast, Wk.getLast hne, (List.dropLast_concat_getLast hne).symm⟩
      clear hne
      replace hs := hs.cast (show _ = Wk'.length + 1 by simp) (show _ = ss (Wk' ++ [x]) from rfl)
      obtain ⟨g0, c0, rfl, _, _, hcap, hcap2⟩ := hs.form0 (by omega)
      have c1 := hs.cell (j := Wk'.length) (u := .string x) (by rw [ss_app, List.getElem?_append_right (by rw [ss_len]; omega)]; simp [ss])
      obtain ⟨v1, hcut, hrow⟩ := hs.cutTo (P := Try.prog) Try.elStr Wk'.length (by omega)
      have hs2 := (hrow _ _ _ hs).cast rfl (show _ = ss Wk' by rw [ss_app, Nat.mul_one, ← ss_len]; exact List.take_left)
      clear hrow
      have hb0 : (g0 : Nat) = g0 := rfl
      clear hb0
      have HHX := Mx.hid (HH.out x _ hs.bare)
      have HWK := Mx.hid (show Wk'.length ≤ 2100000000 by have := mu_wk (G.map (·.2)) M (Wk' ++ [x]); have h1 := HK.out; have h2 := HN0.out; simp at this; omega)
      have hwk := HWK.out
      cases hn : fnd (G.map (·.2)) x with
      | none =>
        have HL := Mx.hid (HI.out.lost HW.out hn)
        rw [show isIn (G.map (·.2)) x = false by unfold isIn; rw [hn]; rfl] at HHX
        clear hn HI
        go_wp2_with (go_at_call 11; refine HHX.out.mono ?_; rintro e w3 ⟨rfl, h3⟩)
        go_ret2
        exact .inr ⟨rfl, HL.out, hs.bare.call0 h3⟩
      | some n =>
        rw [show isIn (G.map (·.2)) x = true by unfold isIn; rw [hn]; rfl] at HHX
        by_cases hx : x ∈ M
        · have HG := Mx.hid (show mget (met M) x = some (.int .i64 1) by rw [mget_met, if_pos (memB_iff.2 hx)])
          have HI2 := Mx.hid (HI.out.skip hx)
          have HK2 := Mx.hid (show mu (G.map (·.2)) M Wk' < gk ∧ gk ≤ n0 from ⟨Nat.lt_of_lt_of_le mu_skip HK.out.1, HK.out.2⟩)
          clear hn hx HI HK
          go_wp2_with (first | (go_at_call 11; refine HHX.out.mono ?_; rintro e w3 ⟨rfl, h3⟩) | ((with_reducible show wpList _ _ _ _ _ _); refine wpl_look rfl 54 _ _ true rfl Try.underlying54 Try.underlying9 Try.zeroInt (by exact hm.grow h3.below) rfl x rfl ?_; rw [HG.out]))
          go_roundg (mu (G.map (·.2)) M Wk')
          case measure => exact HK2.out.1
          case rel => exact ⟨Wk', M, Mx.hid ⟨Nat.le_refl _, Nat.le_of_lt (Nat.lt_of_lt_of_le HK2.out.1 HK2.out.2)⟩, HI2, hm.grow h3.below, hs2.call0 h3⟩
        · have HG := Mx.hid (show mget (met M) x = none by rw [mget_met, if_neg (by rw [memB_iff]; exact hx)])
          have HI2 := Mx.hid (HI.out.meet hx hn)
          have HK2 := Mx.hid (show mu (G.map (·.2)) (M ++ [x]) (Wk' ++ n.1) < gk ∧ gk ≤ n0 from ⟨Nat.lt_of_lt_of_le (mu_meet hx hn) HK.out.1, HK.out.2⟩)
          have HMS := Mx.hid (mset_met hx)
          obtain ⟨pv, hpg, hps, hpl⟩ := HGET.out x n hn
          have HPG := Mx.hid hpg
          have HPS := Mx.hid hps
          obtain ⟨pa, pc, rfl, _⟩ := hps.form
          have kf := Try.fldP
          clear hn hx HI HK hpg hps
          go_wp2_with (first | (go_at_call 11; refine HHX.out.mono ?_; rintro e w3 ⟨rfl, h3⟩) | ((with_reducible show wpList _ _ _ _ _ _); refine wpl_look rfl 54 _ _ true rfl Try.underlying54 Try.underlying9 Try.zeroInt (by exact hm.grow h3.below) rfl x rfl ?_; rw [HG.out]) | ((with_reducible show wpList _ _ _ _ _ _); refine wpl_mset rfl 54 _ _ _ rfl Try.underlying54 Try.underlying9 (by exact hm.grow h3.below) (by exact hs2.call0 h3) (Nat.le_of_eq HB2.out) rfl x rfl ?_; intro w4 hm4 hs4 hg4 hz4; have hr4 := HR.out _ hs4.bare; have c4 := hr4.cell; have HM4 := Mx.hid hr4.mp; have HMM := Mx.hid hm4; clear hr4 hm4 hg4 hz4) | ((with_reducible show wpList _ _ _ _ _ _); refine wpl_look rfl 62 _ _ false rfl Try.underlying62 Try.underlying9 Try.zeroNd (by exact HM4.out) rfl x rfl ?_; rw [HPG.out]) | (at_builtin; refine wpl_appG rfl _ _ 26 rfl Try.elStr hs4 rfl (by exact hs4.old HPS.out) (ss_one _) (by omega) ?_; intro v5 w5 hs5 hg5))
          go_roundg (mu (G.map (·.2)) (M ++ [x]) (Wk' ++ n.1))
          case measure => exact HK2.out.1
          case rel =>
            refine ⟨Wk' ++ n.1, M ++ [x], Mx.hid ⟨Nat.le_refl _, Nat.le_of_lt (Nat.lt_of_lt_of_le HK2.out.1 HK2.out.2)⟩, HI2, ?_, hs5.cast (by simp) (by rw [ss_app])⟩
            have h6 : Mp w4 B2 (mset (met M) x (.int .i64 1)) := HMM.out
            rw [HMS.out] at h6
            exact h6.kept hg5 (h6.apart (hs4.own _ (List.mem_cons_self ..)))
end Go.Proofs.Ytojbdlbcaoeffaa
