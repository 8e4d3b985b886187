/- The walks of a pack's reader: object. The walks of a pack's reader: objects told by others. The walk of a pack's reader: all. -/
import Derived.Test.YtlfdnlomlbbicaaDoorJAPkK
import Derived.Test.YtlfdnlomlbbicaaDoorJ8DelA
import Derived.Test.YtlfdnlomlbbicaaDoorJ13Clone
import Derived.Test.YtlfdnlomlbbicaaDoorJ14ObjA
namespace Go.Proofs.YtlfdnlomlbbicaaDoor
open Go.RowKit Go.Mx
abbrev pxr (v : Value) (l : List UInt8) : Row := ⟨v, 5, 1, l.length, bs l⟩
def ObPost (w0 : World) (R : List Row) (Q : List Rd) (g : Nat) (vb base vo vw : Value) (G : Got) (e : Ending) (w' : World) : Prop :=
  ∃ (x : Value) (d : Int) (y : Value), e = .returned (.tuple #[x, .int .i64 d]) ∧
    ((G.1 ≠ 0 ∧ St w0 w' (prd g vb y base vo vw G.1 :: R) Q) ∨ (G.1 = 0 ∧ d = (G.2.2.1 : Int) ∧ Sl w0 1 y G.2.2.2.length (bs G.2.2.2) ∧ St w0 w' (pxr x G.2.1 :: prd g vb y base vo vw 0 :: R) Q))
theorem ObPost.bad {w0 w' : World} {R : List Row} {Q : List Rd} {g : Nat} {vb base vo vw : Value} {G : Got} {x y : Value} {d : Int} (er : Int) (hG : G.1 = er) (he : er ≠ 0) (hs : St w0 w' (prd g vb y base vo vw er :: R) Q) : ObPost w0 R Q g vb base vo vw G (.returned (.tuple #[x, .int .i64 d])) w' := by
  subst hG
  exact ⟨x, d, y, rfl, .inl ⟨he, hs⟩⟩
/-- Nothing is left. -/
theorem pobj_nil (w0 w : World) (R : List Row) (Q : List Rd) (g : Nat) (vb v base vo vw : Value) (f : ByteArray → Option (List UInt8)) (pre : List (List UInt8 × Nat)) (hs : St w0 w (prd g vb v base vo vw 0 :: R) Q) (hl : Sl w0 1 v 0 (bs [])) :
    Calls Tryd.prog 44 #[.pointer (some ⟨g, 0, none⟩)] w (ObPost w0 R Q g vb base vo vw (rdOne f pre [])) := by
  have HT := Mx.hid (ptake_short w0 w R Q g vb v base vo vw [] 1 hs hl (by simp))
  clear hs hl
  go_enter Tryd.func44, Tryd.ntmps44
  go_wp2_with fail
  refine HT.out.mono ?_
  rintro e w1 ⟨rfl, hs⟩
  have c5 : w1.cell? ⟨g, 5, none⟩ = some (.int .i64 2) := hs.rcell (List.mem_cons_self ..) rfl
  go_wp2_with fail
  go_ret2
  exact ObPost.bad 2 rfl (by simp) hs
/-- The first byte is taken. -/
theorem pobj_kind {w0 w : World} {R : List Row} {Q : List Rd} {g : Nat} {vb v base vo vw : Value} {k : UInt8} {r : List UInt8} (hs : St w0 w (prd g vb v base vo vw 0 :: R) Q) (hl : Sl w0 1 v (k :: r).length (bs (k :: r))) :
    Calls Tryd.prog 41 #[.pointer (some ⟨g, 0, none⟩), .int .i64 1] w fun e w' => ∃ (b o c : Nat) (y : Value), e = .returned (.slice (some ⟨b, o, none⟩) 1 c) ∧ w'.cell? ⟨b, o, none⟩ = some (.int .u8 (k.toNat : Int)) ∧ Sl w0 1 y r.length (bs r) ∧ w'.cell? ⟨g, 5, none⟩ = some (.int .i64 0) ∧ St w0 w' (prd g vb y base vo vw 0 :: R) Q := by
  refine (ptake_ok w0 w R Q g vb v base vo vw (k :: r) 1 hs hl (by simp)).mono ?_
  rintro e w1 ⟨x, y, rfl, hx, hy, hs⟩
  obtain ⟨ao, cap, blk, off, rfl, h1, h2, _, hc⟩ := hx.byt
  obtain ⟨rfl, c0⟩ := hc 0 (by simp)
  exact ⟨blk, off, cap, y, by simp, hs.keep c0, hy, hs.rcell (List.mem_cons_self ..) rfl, hs⟩
/-- Of no kind. -/
theorem pobj_other (w0 w : World) (R : List Row) (Q : List Rd) (g : Nat) (vb v base vo vw : Value) (f : ByteArray → Option (List UInt8)) (pre : List (List UInt8 × Nat)) (k : UInt8) (r : List UInt8) (hs : St w0 w (prd g vb v base vo vw 0 :: R) Q) (hl : Sl w0 1 v (k :: r).length (bs (k :: r))) (k0 : k ≠ 0) (k1 : k ≠ 1) (k2 : k ≠ 2) :
    Calls Tryd.prog 44 #[.pointer (some ⟨g, 0, none⟩)] w (ObPost w0 R Q g vb base vo vw (rdOne f pre (k :: r))) := by
  have HT := Mx.hid (pobj_kind hs hl)
  have hG : rdOne f pre (k :: r) = gBad 4 := by rw [rdOne, if_neg k0, if_neg k1, if_neg k2]
  have q0 : ((k.toNat : Int) == 0) = false := u8_beqF (y := 0) k0
  have q1 : ((k.toNat : Int) == 1) = false := u8_beqF (y := 1) k1
  have q2 : ((k.toNat : Int) == 2) = false := u8_beqF (y := 2) k2
  rw [hG]
  generalize k.toNat = kk at *
  clear hs hl k0 k1 k2 hG
  go_enter Tryd.func44, Tryd.ntmps44
  go_wp2_with fail
  refine HT.out.mono ?_
  rintro e w1 ⟨kb, ko, kc, y, rfl, c0, hy, c5, hs⟩
  have HY := Mx.hid hy
  clear hy HT
  have hf := pfail_any w0 w1 _ _ g vb y base vo vw 0 4 hs
  rw [if_pos rfl] at hf
  have HFF := Mx.hid hf
  clear hf
  go_wp2_with (go_at_call 42; refine HFF.out.mono ?_; rintro e w4 ⟨rfl, hs4⟩)
  refine (pnumber_stop w4 g 4 (hs4.rcell (List.mem_cons_self ..) rfl) (by simp)).mono ?_
  rintro e w5 ⟨rfl, hk5⟩
  replace hs4 := hs4.call0 hk5
  go_wp2_with fail
  refine (ptake_stop w0 w5 R Q g vb y base vo vw r 0 4 hs4 HY.out (by simp)).mono ?_
  rintro e w6 ⟨rfl, hs6⟩
  have c6 : w6.cell? ⟨g, 5, none⟩ = some (.int .i64 4) := hs6.rcell (List.mem_cons_self ..) rfl
  go_wp2_with fail
  go_ret2
  exact ObPost.bad 4 rfl (by simp) hs6
/-- Whole. -/
theorem pobj_whole (w0 w : World) (R : List Row) (Q : List Rd) (g : Nat) (vb v base vo vw : Value) (f : ByteArray → Option (List UInt8)) (pre : List (List UInt8 × Nat)) (r : List UInt8) (hs : St w0 w (prd g vb v base vo vw 0 :: R) Q) (hl : Sl w0 1 v (0 :: r).length (bs (0 :: r))) (hn : r.length ≤ 140737488355328) :
    Calls Tryd.prog 44 #[.pointer (some ⟨g, 0, none⟩)] w (ObPost w0 R Q g vb base vo vw (rdOne f pre (0 :: r))) := by
  have HT := Mx.hid (pobj_kind hs hl)
  obtain ⟨G, hG⟩ : ∃ G, rdOne f pre (0 :: r) = G := ⟨_, rfl⟩
  rw [hG]
  rw [rdOne, if_pos rfl] at hG
  unfold rdWhole at hG
  clear hs hl
  go_enter Tryd.func44, Tryd.ntmps44
  go_wp2_with fail
  refine HT.out.mono ?_
  rintro e w1 ⟨kb, ko, kc, y, rfl, c0, hy, c5, hs⟩
  have HY := Mx.hid hy
  clear hy HT
  go_wp2_with fail
  refine (pnumber_go w0 w1 R Q g vb y base vo vw r hs HY.out hn).mono ?_
  unfold PNumPost
  rintro e w2 ⟨z, rfl, hz, hs2⟩
  have HZ := Mx.hid hz
  have hbad := fun (h : nmE r ≠ 0) => (nm_bad h).1
  have hgood := fun (h : nmE r = 0) => (nm_good h).1
  generalize nmE r = E at *
  generalize nmN r = N at *
  generalize r.drop (nmJ r) = r2 at *
  by_cases hE : E = 0
  · subst hE
    rw [if_neg (by simp)] at hG
    clear hbad hs
    by_cases hb : 20000 < N
    · rw [if_pos hb] at hG
      have d1 : decide ((20000 : Int) < (N : Int)) = true := decide_eq_true (by omega)
      have hf := pfail_any w0 w2 _ _ g vb z base vo vw 0 3 hs2
      rw [if_pos rfl] at hf
      have HFF := Mx.hid hf
      have HG := Mx.hid hG
      clear hf hz hb hgood hG
      go_wp2_with (go_at_call 42; refine HFF.out.mono ?_; rintro e w4 ⟨rfl, hs4⟩)
      refine (ptake_stop w0 w4 R Q g vb z base vo vw r2 N 3 hs4 HZ.out (by simp)).mono ?_
      rintro e w6 ⟨rfl, hs6⟩
      go_wp2_with fail
      refine (clone_any _ [] w6 (Sl.nil w6 1) (by simp)).mono ?_
      rintro e w7 ⟨v7, rfl, hk7⟩
      go_wp2_with fail
      go_ret2
      exact ObPost.bad 3 (by rw [← HG.out]; rfl) (by simp) (hs6.call0 hk7.bare)
    · rw [if_neg hb] at hG
      have d1 : decide ((20000 : Int) < (N : Int)) = false := decide_eq_false (by omega)
      by_cases hlen : r2.length < N
      · rw [if_pos hlen] at hG
        have HG := Mx.hid hG
        clear hz hb hgood hG
        go_wp2_with fail
        refine (ptake_short w0 w2 R Q g vb z base vo vw r2 N hs2 HZ.out hlen).mono ?_
        rintro e w6 ⟨rfl, hs6⟩
        go_wp2_with fail
        refine (clone_any _ [] w6 (Sl.nil w6 1) (by simp)).mono ?_
        rintro e w7 ⟨v7, rfl, hk7⟩
        go_wp2_with fail
        go_ret2
        exact ObPost.bad 2 (by rw [← HG.out]; rfl) (by simp) (hs6.call0 hk7.bare)
      · rw [if_neg hlen] at hG
        have HG := Mx.hid hG
        clear hG
        have hNl : (r2.take N).length ≤ 140737488355328 := by rw [List.length_take]; omega
        go_wp2_with fail
        refine (ptake_ok w0 w2 R Q g vb z base vo vw r2 N hs2 HZ.out (by omega)).mono ?_
        rintro e w6 ⟨x6, y6, rfl, hx6, hy6, hs6⟩
        clear hz hb hgood hlen
        go_wp2_with fail
        refine (clone_any _ (r2.take N) w6 (hs6.old hx6) hNl).mono ?_
        rintro e w7 ⟨v7, rfl, hk7⟩
        go_wp2_with fail
        go_ret2
        rw [← HG.out]
        exact ⟨_, _, y6, rfl, .inr ⟨rfl, rfl, hy6, hs6.call1 hk7⟩⟩
  · rw [if_pos hE] at hG
    have hN := hbad hE
    subst hN
    have HG := Mx.hid hG
    clear hbad hgood hz hs hG
    go_wp2_with fail
    refine (ptake_stop w0 w2 R Q g vb z base vo vw r2 0 E hs2 HZ.out hE).mono ?_
    rintro e w6 ⟨rfl, hs6⟩
    go_wp2_with fail
    refine (clone_any _ [] w6 (Sl.nil w6 1) (by simp)).mono ?_
    rintro e w7 ⟨v7, rfl, hk7⟩
    go_wp2_with fail
    go_ret2
    exact ObPost.bad E (by rw [← HG.out]; rfl) hE (hs6.call0 hk7.bare)
end Go.Proofs.YtlfdnlomlbbicaaDoor

namespace Go.Mx
open Go Go.RowKit
theorem rdBack_eq (pre : List (List UInt8 × Nat)) (r : List UInt8) : rdBack pre r = if ahE pre r ≠ 0 then gBad (ahE pre r) else rdDel (pre.getD (pre.length - nmN r) ([], 0)).1 ((pre.getD (pre.length - nmN r) ([], 0)).2 + 1) (r.drop (nmJ r)) := by
  unfold rdBack ahE
  by_cases h1 : nmE r ≠ 0
  · simp only [if_pos h1]
  · simp only [if_neg h1]
    by_cases h2 : nmN r < 1 ∨ pre.length < nmN r
    · simp only [if_pos h2]; rfl
    · simp only [if_neg h2]
      by_cases h3 : 8 ≤ (pre.getD (pre.length - nmN r) ([], 0)).2
      · simp only [if_pos h3]; rfl
      · simp only [if_neg h3]; rfl
theorem rdFar_eq (f : ByteArray → Option (List UInt8)) (r : List UInt8) : rdFar f r = if elE f r ≠ 0 then gBad (elE f r) else rdDel ((elF f r).getD []) 1 (r.drop 32) := by
  unfold rdFar elE elF
  by_cases h1 : r.length < 32
  · simp only [if_pos h1]; rfl
  · simp only [if_neg h1]
    cases h : f (str (hexL (r.take 32))) with
    | none => rfl
    | some x =>
      simp only
      by_cases h2 : idB x ≠ str (hexL (r.take 32))
      · simp only [if_pos h2]; rfl
      · simp only [if_neg h2]; rfl
end Go.Mx
namespace Go.Proofs.YtlfdnlomlbbicaaDoor
open Go.RowKit Go.Mx
set_option maxRecDepth 100000 in
set_option maxHeartbeats 2000000 in
/-- By one ahead. -/
theorem pobj_back (w0 w : World) (R : List Row) (Q : List Rd) (g : Nat) (vb v base vo vw : Value) (f : ByteArray → Option (List UInt8)) (pre : List (List UInt8 × Nat)) (pl : List Nat) (us : List Value) (r : List UInt8)
    (hs : St w0 w (prd g vb v base vo vw 0 :: orow vo pre.length us :: wrow vw pre.length (rws pre pl) :: R) Q) (hl : Sl w0 1 v (1 :: r).length (bs (1 :: r))) (hn : r.length ≤ 140737488355328)
    (hpl : pl.length = pre.length) (hus : us.length = pre.length) (hm : pre.length ≤ 512) (hpz : ∀ p ∈ pre, p.1.length ≤ 20000)
    (hU : ∀ (k : Nat) (p : List UInt8 × Nat), pre[k]? = some p → ∀ u, us[k]? = some u → (⟨u, 1, p.1.length, bs p.1⟩ : Rd) ∈ Q) :
    Calls Tryd.prog 44 #[.pointer (some ⟨g, 0, none⟩)] w (ObPost w0 (orow vo pre.length us :: wrow vw pre.length (rws pre pl) :: R) Q g vb base vo vw (rdOne f pre (1 :: r))) := by
  have HT := Mx.hid (pobj_kind hs hl)
  obtain ⟨G, hG⟩ : ∃ G, rdOne f pre (1 :: r) = G := ⟨_, rfl⟩
  rw [hG]
  rw [rdOne, if_neg (by decide), if_pos rfl, rdBack_eq] at hG
  have HU := Mx.hid hU
  have HPZ := Mx.hid hpz
  have HPL := Mx.hid hpl
  have HUS := Mx.hid hus
  clear hs hl hU hpz hpl hus
  go_enter Tryd.func44, Tryd.ntmps44
  go_wp2_with fail
  refine HT.out.mono ?_
  rintro e w1 ⟨kb, ko, kc, y, rfl, c0, hy, c5, hs⟩
  have HY := Mx.hid hy
  clear hy HT
  go_wp2_with fail
  refine (pahead_any w0 w1 R Q g vb y base vo vw pre pl us r hs HPL.out HUS.out hm HY.out hn).mono ?_
  unfold AhPost
  rintro e w4 ⟨vx, D, y, rfl, hy, hs4, hok⟩
  have HY := Mx.hid hy
  have hn2 : (r.drop (nmJ r)).length ≤ 140737488355328 := by rw [List.length_drop]; omega
  clear hs
  by_cases hA : ahE pre r = 0
  · obtain ⟨hu, hd⟩ := hok hA
    have hle : nmN r ≤ pre.length ∧ 1 ≤ nmN r ∧ (pre.getD (pre.length - nmN r) ([], 0)).2 < 8 := by
      unfold ahE at hA
      split at hA
      · omega
      · split at hA
        · omega
        · split at hA
          · omega
          · omega
    have hk : pre.length - nmN r < pre.length := by omega
    have hpg : pre[pre.length - nmN r]? = some (pre.getD (pre.length - nmN r) ([], 0)) := by rw [List.getD_eq_getElem?_getD, List.getElem?_eq_getElem hk]; rfl
    have HMEM := Mx.hid (HU.out _ _ hpg _ hu)
    have hbl : (pre.getD (pre.length - nmN r) ([], 0)).1.length ≤ 140737488355328 := by have := HPZ.out _ (List.mem_of_getElem? hpg); omega
    rw [hA] at hs4
    rw [if_neg (by simpa using hA), hd] at hG
    rw [hd] at hle
    have hD8 : (D : Int) < 8 := by omega
    have HQ := Mx.hid (fun (w' : World) (R' : List Row) (h : St w0 w' R' Q) => h)
    have HZ := HY
    have hs2 := hs4
    clear hA hu hd hle hk hpg hok hy HY hs4 HU HPZ
    generalize (pre.getD (pre.length - nmN r) ([], 0)).1 = bb at *
    generalize r.drop (nmJ r) = r2 at *
    go_wp2_with fail
    refine (pnumber_go w0 w4 _ _ g vb y base vo vw r2 hs2 HZ.out hn2).mono ?_
    unfold PNumPost
    rintro e w3 ⟨z3, rfl, hz3, hs3⟩
    have HZ3 := Mx.hid hz3
    unfold rdDel at hG
    have hbad := fun (h : nmE r2 ≠ 0) => (nm_bad h).1
    have hn3 : (r2.drop (nmJ r2)).length ≤ 140737488355328 := by rw [List.length_drop]; omega
    generalize nmE r2 = E at *
    generalize nmN r2 = N at *
    generalize r2.drop (nmJ r2) = r3 at *
    clear hz3 hs2
    by_cases hE : E = 0
    · subst hE
      rw [if_neg (by simp)] at hG
      clear hbad
      by_cases hlen : r3.length < N
      · rw [if_pos hlen] at hG
        go_wp2_with fail
        refine (ptake_short w0 w3 _ _ g vb z3 base vo vw r3 N hs3 HZ3.out hlen).mono ?_
        rintro e w6 ⟨rfl, hs6⟩
        have c6 : w6.cell? ⟨g, 5, none⟩ = some (.int .i64 2) := hs6.rcell (List.mem_cons_self ..) rfl
        have HG := Mx.hid hG
        clear hlen hG
        go_wp2_with fail
        go_ret2
        exact ObPost.bad 2 (by rw [← HG.out]; rfl) (by simp) (HQ.out _ _ hs6)
      · rw [if_neg hlen] at hG
        have hNl : (r3.take N).length ≤ 140737488355328 := by rw [List.length_take]; omega
        go_wp2_with fail
        refine (ptake_ok w0 w3 _ _ g vb z3 base vo vw r3 N hs3 HZ3.out (by omega)).mono ?_
        rintro e w6 ⟨x6, y6, rfl, hx6, hy6, hs6⟩
        have c6 : w6.cell? ⟨g, 5, none⟩ = some (.int .i64 0) := hs6.rcell (List.mem_cons_self ..) rfl
        have HY6 := Mx.hid hy6
        have HAP := Mx.hid (apply_any w6 vx x6 bb (r3.take N) (hs6.rd _ HMEM.out) (hs6.old hx6) hbl hNl)
        unfold ApplyPost at HAP
        clear hlen hy6 hx6 hs3
        generalize r3.drop N = r4 at *
        generalize (apR bb (r3.take N)).1 = A at *
        generalize (apR bb (r3.take N)).2 = X at *
        go_wp2_with fail
        refine HAP.out.mono ?_
        rintro e w7 ⟨v7, rfl, hk7⟩
        have HFF := Mx.hid (pfail_any w0 w7 _ _ g vb y6 base vo vw 0 A (hs6.call1 hk7).swap)
        rw [if_pos rfl] at HFF
        clear hk7 HAP c6
        have HG := Mx.hid hG
        clear hG
        go_wp2_with fail
        refine HFF.out.mono ?_
        rintro e w8 ⟨rfl, hs8⟩
        go_wp2_with fail
        go_ret2
        by_cases hA : A = 0
        · subst hA
          have hG := HG.out
          rw [if_neg (by simp)] at hG
          rw [← hG]
          exact ⟨_, _, y6, rfl, .inr ⟨rfl, rfl, HY6.out, HQ.out _ _ hs8.swap⟩⟩
        · have hG := HG.out
          rw [if_pos hA] at hG
          exact ObPost.bad A (by rw [← hG]; rfl) hA (HQ.out _ _ (hs8.sub (List.Sublist.cons_cons _ (List.sublist_cons_self _ _)) fun _ h => h))
    · rw [if_pos hE] at hG
      have hN := hbad hE
      subst hN
      have HG := Mx.hid hG
      clear hbad hG
      go_wp2_with fail
      refine (ptake_stop w0 w3 _ _ g vb z3 base vo vw r3 0 E hs3 HZ3.out hE).mono ?_
      rintro e w6 ⟨rfl, hs6⟩
      have c6 : w6.cell? ⟨g, 5, none⟩ = some (.int .i64 E) := hs6.rcell (List.mem_cons_self ..) rfl
      have hE' : (E != 0) = true := by simpa using hE
      go_wp2_with fail
      go_ret2
      exact ObPost.bad E (by rw [← HG.out]; rfl) hE (HQ.out _ _ hs6)
  · rw [if_pos hA] at hG
    have HG := Mx.hid hG
    clear hok hy hG
    generalize ahE pre r = A at *
    have hA' : (A != 0) = true := by simpa using hA
    go_wp2_with fail
    refine (pnumber_stop w4 g A (hs4.rcell (List.mem_cons_self ..) rfl) hA).mono ?_
    rintro e w5 ⟨rfl, hk5⟩
    replace hs4 := hs4.call0 hk5
    go_wp2_with fail
    refine (ptake_stop w0 w5 _ _ g vb y base vo vw (r.drop (nmJ r)) 0 A hs4 HY.out hA).mono ?_
    rintro e w6 ⟨rfl, hs6⟩
    have c6 : w6.cell? ⟨g, 5, none⟩ = some (.int .i64 A) := hs6.rcell (List.mem_cons_self ..) rfl
    go_wp2_with fail
    go_ret2
    exact ObPost.bad A (by rw [← HG.out]; rfl) hA hs6
set_option maxRecDepth 100000 in
set_option maxHeartbeats 2000000 in
/-- By one elsewhere. -/
theorem pobj_far (w0 w : World) (R : List Row) (Q : List Rd) (g : Nat) (vb v vo vw : Value) (fb : FuncId) (caps : Array Value) (f : ByteArray → Option (List UInt8)) (pre : List (List UInt8 × Nat)) (r : List UInt8)
    (hs : St w0 w (prd g vb v (.func (.func fb) #[] caps) vo vw 0 :: R) Q) (hl : Sl w0 1 v (2 :: r).length (bs (2 :: r))) (hn : r.length ≤ 140737488355328) (hB : BaseOk fb caps f w0) (hbz : ∀ id x, f id = some x → x.length ≤ 1000000000) (hL : Laid w0) :
    Calls Tryd.prog 44 #[.pointer (some ⟨g, 0, none⟩)] w (ObPost w0 R Q g vb (.func (.func fb) #[] caps) vo vw (rdOne f pre (2 :: r))) := by
  have HT := Mx.hid (pobj_kind hs hl)
  obtain ⟨G, hG⟩ : ∃ G, rdOne f pre (2 :: r) = G := ⟨_, rfl⟩
  rw [hG]
  rw [rdOne, if_neg (by decide), if_neg (by decide), if_pos rfl, rdFar_eq] at hG
  have HB := Mx.hid hB
  have HBZ := Mx.hid hbz
  clear hs hl hB hbz
  generalize hbase : Value.func (.func fb) #[] caps = base at *
  go_enter Tryd.func44, Tryd.ntmps44
  go_wp2_with fail
  refine HT.out.mono ?_
  rintro e w1 ⟨kb, ko, kc, y, rfl, c0, hy, c5, hs⟩
  have HY := Mx.hid hy
  clear hy HT
  subst hbase
  go_wp2_with fail
  refine (pelse_any w0 w1 R Q g vb y vo vw fb caps f r hs HY.out hn HB.out HBZ.out hL).mono ?_
  unfold ElPost
  rintro e w4 (⟨hA, vx, y2, r2, rfl, hy2, hs4⟩ | ⟨hA, h32, vx, bb, z, hF, rfl, hz, hs2⟩)
  · rw [if_pos hA] at hG
    have HG := Mx.hid hG
    clear hG
    generalize elE f r = A at *
    have hA' : (A != 0) = true := by simpa using hA
    have HY := Mx.hid hy2
    generalize Value.func (.func fb) #[] caps = base at *
    clear hs hy2 HB HBZ
    go_wp2_with fail
    refine (pnumber_stop w4 g A (hs4.rcell (List.mem_cons_self ..) rfl) hA).mono ?_
    rintro e w5 ⟨rfl, hk5⟩
    replace hs4 := hs4.call0 hk5
    go_wp2_with fail
    refine (ptake_stop w0 w5 _ _ g vb y2 base vo vw r2 0 A hs4 HY.out hA).mono ?_
    rintro e w6 ⟨rfl, hs6⟩
    have c6 : w6.cell? ⟨g, 5, none⟩ = some (.int .i64 A) := hs6.rcell (List.mem_cons_self ..) rfl
    go_wp2_with fail
    go_ret2
    exact ObPost.bad A (by rw [← HG.out]; rfl) hA hs6
  · rw [if_neg (by simpa using hA), hF] at hG
    have HZ := Mx.hid hz
    have hbl : bb.length ≤ 140737488355328 := by have := HBZ.out _ _ hF; omega
    have HQ := Mx.hid (fun (w' : World) (R' : List Row) (h : St w0 w' R' (⟨vx, 1, bb.length, bs bb⟩ :: Q)) => h.tailQ)
    have HMEM := Mx.hid (show (⟨vx, 1, bb.length, bs bb⟩ : Rd) ∈ (⟨vx, 1, bb.length, bs bb⟩ :: Q : List Rd) from List.mem_cons_self ..)
    have hn2 : (r.drop 32).length ≤ 140737488355328 := by rw [List.length_drop]; omega
    simp only [Option.getD_some] at hG
    generalize r.drop 32 = r2 at *
    generalize Value.func (.func fb) #[] caps = base at *
    clear hA h32 hF hz hs HB HBZ
    go_wp2_with fail
    refine (pnumber_go w0 w4 _ _ g vb z base vo vw r2 hs2 HZ.out hn2).mono ?_
    unfold PNumPost
    rintro e w3 ⟨z3, rfl, hz3, hs3⟩
    have HZ3 := Mx.hid hz3
    unfold rdDel at hG
    have hbad := fun (h : nmE r2 ≠ 0) => (nm_bad h).1
    have hn3 : (r2.drop (nmJ r2)).length ≤ 140737488355328 := by rw [List.length_drop]; omega
    generalize nmE r2 = E at *
    generalize nmN r2 = N at *
    generalize r2.drop (nmJ r2) = r3 at *
    clear hz3 hs2
    by_cases hE : E = 0
    · subst hE
      rw [if_neg (by simp)] at hG
      clear hbad
      by_cases hlen : r3.length < N
      · rw [if_pos hlen] at hG
        go_wp2_with fail
        refine (ptake_short w0 w3 _ _ g vb z3 base vo vw r3 N hs3 HZ3.out hlen).mono ?_
        rintro e w6 ⟨rfl, hs6⟩
        have c6 : w6.cell? ⟨g, 5, none⟩ = some (.int .i64 2) := hs6.rcell (List.mem_cons_self ..) rfl
        have HG := Mx.hid hG
        clear hlen hG
        go_wp2_with fail
        go_ret2
        exact ObPost.bad 2 (by rw [← HG.out]; rfl) (by simp) (HQ.out _ _ hs6)
      · rw [if_neg hlen] at hG
        have hNl : (r3.take N).length ≤ 140737488355328 := by rw [List.length_take]; omega
        go_wp2_with fail
        refine (ptake_ok w0 w3 _ _ g vb z3 base vo vw r3 N hs3 HZ3.out (by omega)).mono ?_
        rintro e w6 ⟨x6, y6, rfl, hx6, hy6, hs6⟩
        have c6 : w6.cell? ⟨g, 5, none⟩ = some (.int .i64 0) := hs6.rcell (List.mem_cons_self ..) rfl
        have HY6 := Mx.hid hy6
        have HAP := Mx.hid (apply_any w6 vx x6 bb (r3.take N) (hs6.rd _ HMEM.out) (hs6.old hx6) hbl hNl)
        unfold ApplyPost at HAP
        clear hlen hy6 hx6 hs3
        generalize r3.drop N = r4 at *
        generalize (apR bb (r3.take N)).1 = A at *
        generalize (apR bb (r3.take N)).2 = X at *
        go_wp2_with fail
        refine HAP.out.mono ?_
        rintro e w7 ⟨v7, rfl, hk7⟩
        have HFF := Mx.hid (pfail_any w0 w7 _ _ g vb y6 base vo vw 0 A (hs6.call1 hk7).swap)
        rw [if_pos rfl] at HFF
        clear hk7 HAP c6
        have HG := Mx.hid hG
        clear hG
        go_wp2_with fail
        refine HFF.out.mono ?_
        rintro e w8 ⟨rfl, hs8⟩
        go_wp2_with fail
        go_ret2
        by_cases hA : A = 0
        · subst hA
          have hG := HG.out
          rw [if_neg (by simp)] at hG
          rw [← hG]
          exact ⟨_, _, y6, rfl, .inr ⟨rfl, rfl, HY6.out, HQ.out _ _ hs8.swap⟩⟩
        · have hG := HG.out
          rw [if_pos hA] at hG
          exact ObPost.bad A (by rw [← hG]; rfl) hA (HQ.out _ _ (hs8.sub (List.Sublist.cons_cons _ (List.sublist_cons_self _ _)) fun _ h => h))
    · rw [if_pos hE] at hG
      have hN := hbad hE
      subst hN
      have HG := Mx.hid hG
      clear hbad hG
      go_wp2_with fail
      refine (ptake_stop w0 w3 _ _ g vb z3 base vo vw r3 0 E hs3 HZ3.out hE).mono ?_
      rintro e w6 ⟨rfl, hs6⟩
      have c6 : w6.cell? ⟨g, 5, none⟩ = some (.int .i64 E) := hs6.rcell (List.mem_cons_self ..) rfl
      have hE' : (E != 0) = true := by simpa using hE
      go_wp2_with fail
      go_ret2
      exact ObPost.bad E (by rw [← HG.out]; rfl) hE (HQ.out _ _ hs6)
end Go.Proofs.YtlfdnlomlbbicaaDoor

namespace Go.Mx
open Go Go.RowKit
theorem stepsR_le (base : List UInt8) (to : Nat) : ∀ (n : Nat) (l out : List UInt8), l.length ≤ n → out.length ≤ to → (stepsR base to l out).2.length ≤ to
  | n, [], out, _, h => by
    rw [stepsR]
    split
    · exact Nat.zero_le _
    · exact h
  | n + 1, kind :: l, out, hn, h => by
    rw [stepsR]
    split
    · exact Nat.zero_le _
    · split
      · exact Nat.zero_le _
      · refine stepsR_le base to n _ _ ?_ ?_
        · have := stepR_len base kind l
          simp at hn
          omega
        · rw [List.length_append]; omega
theorem apR_le (base d : List UInt8) : (apR base d).2.length ≤ 20000 := by
  unfold apR
  split
  · exact Nat.zero_le _
  · split
    · exact Nat.zero_le _
    · split
      · exact Nat.zero_le _
      · have := stepsR_le base (szB d) (szR d).length (szR d) [] (Nat.le_refl _) (Nat.zero_le _)
        omega
theorem rdDel_le (b : List UInt8) (d : Nat) (r : List UInt8) : (rdDel b d r).2.1.length ≤ 20000 := by
  unfold rdDel gBad
  repeat' split
  all_goals first | exact Nat.zero_le _ | exact apR_le _ _
theorem rdOne_le (f : ByteArray → Option (List UInt8)) (pre : List (List UInt8 × Nat)) (l : List UInt8) : (rdOne f pre l).2.1.length ≤ 20000 := by
  cases l with
  | nil => exact Nat.zero_le _
  | cons k r =>
    rw [rdOne]
    split
    · unfold rdWhole gBad
      repeat' split
      all_goals first | exact Nat.zero_le _ | (rw [List.length_take]; omega)
    · split
      · unfold rdBack gBad
        repeat' split
        all_goals first | exact Nat.zero_le _ | exact rdDel_le _ _ _
      · split
        · unfold rdFar gBad
          repeat' split
          all_goals first | exact Nat.zero_le _ | exact rdDel_le _ _ _
        · exact Nat.zero_le _
theorem rdDel_rest (b : List UInt8) (d : Nat) (r : List UInt8) : (rdDel b d r).2.2.2.length ≤ r.length := by
  unfold rdDel gBad
  repeat' split
  all_goals first | exact Nat.zero_le _ | (simp only [List.length_drop]; omega)
theorem rdOne_rest (f : ByteArray → Option (List UInt8)) (pre : List (List UInt8 × Nat)) (l : List UInt8) : (rdOne f pre l).2.2.2.length ≤ l.length := by
  cases l with
  | nil => exact Nat.zero_le _
  | cons k r =>
    rw [rdOne, List.length_cons]
    split
    · unfold rdWhole gBad
      repeat' split
      all_goals first | exact Nat.zero_le _ | (simp only [List.length_drop]; omega)
    · split
      · unfold rdBack gBad
        repeat' split
        all_goals first | exact Nat.zero_le _ | (refine Nat.le_trans (rdDel_rest _ _ _) ?_; rw [List.length_drop]; omega)
      · split
        · unfold rdFar gBad
          repeat' split
          all_goals first | exact Nat.zero_le _ | (refine Nat.le_trans (rdDel_rest _ _ _) ?_; rw [List.length_drop]; omega)
        · exact Nat.zero_le _
theorem rds_mem {us : List Value} {pre : List (List UInt8 × Nat)} (k : Nat) (p : List UInt8 × Nat) (hp : pre[k]? = some p) (u : Value) (hu : us[k]? = some u) : (⟨u, 1, p.1.length, bs p.1⟩ : Rd) ∈ rds us (pre.map Prod.fst) := by
  refine List.mem_of_getElem? (i := k) ?_
  rw [rds, List.getElem?_zipWith, hu, List.getElem?_map, hp]
  rfl
end Go.Mx
namespace Go.Proofs.YtlfdnlomlbbicaaDoor
open Go.RowKit Go.Mx
theorem Tryd.elRow : El Tryd.prog 33 38 3 32 := El.mk' Tryd.underlying33 (z := .agg #[.string ByteArray.empty, .int .i64 0, .int .i64 0]) (by kernel_rfl) rfl (by omega)
theorem pobj_any (w0 w : World) (R : List Row) (Q : List Rd) (g : Nat) (vb v vo vw : Value) (fb : FuncId) (caps : Array Value) (f : ByteArray → Option (List UInt8)) (pre : List (List UInt8 × Nat)) (pl : List Nat) (us : List Value) (l : List UInt8)
    (hs : St w0 w (prd g vb v (.func (.func fb) #[] caps) vo vw 0 :: orow vo pre.length us :: wrow vw pre.length (rws pre pl) :: R) Q) (hl : Sl w0 1 v l.length (bs l)) (hn : l.length ≤ 140737488355328)
    (hpl : pl.length = pre.length) (hus : us.length = pre.length) (hm : pre.length ≤ 512) (hpz : ∀ p ∈ pre, p.1.length ≤ 20000)
    (hU : ∀ (k : Nat) (p : List UInt8 × Nat), pre[k]? = some p → ∀ u, us[k]? = some u → (⟨u, 1, p.1.length, bs p.1⟩ : Rd) ∈ Q)
    (hB : BaseOk fb caps f w0) (hbz : ∀ id x, f id = some x → x.length ≤ 1000000000) (hL : Laid w0) :
    Calls Tryd.prog 44 #[.pointer (some ⟨g, 0, none⟩)] w (ObPost w0 (orow vo pre.length us :: wrow vw pre.length (rws pre pl) :: R) Q g vb (.func (.func fb) #[] caps) vo vw (rdOne f pre l)) := by
  cases l with
  | nil => exact pobj_nil w0 w _ Q g vb v _ vo vw f pre hs hl
  | cons k r =>
    have hr : r.length ≤ 140737488355328 := by simp at hn; omega
    by_cases k0 : k = 0
    · subst k0; exact pobj_whole w0 w _ Q g vb v _ vo vw f pre r hs hl hr
    · by_cases k1 : k = 1
      · subst k1; exact pobj_back w0 w R Q g vb v _ vo vw f pre pl us r hs hl hr hpl hus hm hpz hU
      · by_cases k2 : k = 2
        · subst k2; exact pobj_far w0 w _ Q g vb v vo vw fb caps f pre r hs hl hr hB hbz hL
        · exact pobj_other w0 w _ Q g vb v _ vo vw f pre k r hs hl k0 k1 k2

/-- What a reader has when it is done. -/
def AllPost (w0 : World) (g : Nat) (vb base : Value) (X : Int × List (List UInt8 × Nat) × List Nat) (e : Ending) (w' : World) : Prop :=
  e = .returned (.tuple #[]) ∧ ∃ vr vo vw us, us.length = X.2.1.length ∧ X.2.2.length = X.2.1.length ∧ X.2.1.length ≤ 512 ∧
    St w0 w' [prd g vb vr base vo vw X.1, orow vo X.2.1.length us, wrow vw X.2.1.length (rws X.2.1 X.2.2)] (rds us (X.2.1.map Prod.fst))
end Go.Proofs.YtlfdnlomlbbicaaDoor
