/- The walks of a pack's reader: object. The walks of a pack's reader: objects told by others. The walk of a pack's reader: all. The walk of a pack's reader: all objects. The walks of pack.read, Parse, Index. The walks of pack.Parse and Index. -/
import Derived.Test.YtlfdnlomlbbicaaGreatDoorJAPkK
import Derived.Test.YtlfdnlomlbbicaaGreatDoorJ10DelW
import Derived.Test.YtlfdnlomlbbicaaGreatDoorJ17ObjS
import Derived.Test.YtlfdnlomlbbicaaGreatDoorJ18ObjA
namespace Go.Mx
theorem u8_kF {x y : UInt8} (h : x ≠ y) : ((x.toNat : Int) == (y.toNat : Int)) = false := by
  have : x.toNat ≠ y.toNat := fun e => h (UInt8.toNat.inj e)
  simp only [beq_eq_false_iff_ne, ne_eq]
  omega
end Go.Mx
namespace Go.Proofs.YtlfdnlomlbbicaaGreatDoor
open Go.RowKit Go.Mx
abbrev pxr (v : Value) (l : List UInt8) : Row := ⟨v, 5, 1, l.length, bs l⟩
def ObPost (w0 : World) (R : List Row) (Q : List Rd) (g : Nat) (vb base vo vw : Value) (G : Got) (e : Ending) (w' : World) : Prop :=
  ∃ (x : Value) (d : Int) (y : Value), e = .returned (.tuple #[x, .int .i64 d]) ∧
    ((G.1 ≠ 0 ∧ St w0 w' (prd g vb y base vo vw G.1 :: R) Q) ∨ (G.1 = 0 ∧ d = (G.2.2.1 : Int) ∧ Sl w0 1 y G.2.2.2.length (bs G.2.2.2) ∧ St w0 w' (pxr x G.2.1 :: prd g vb y base vo vw 0 :: R) Q))
theorem ObPost.bad {w0 w' : World} {R : List Row} {Q : List Rd} {g : Nat} {vb base vo vw : Value} {G : Got} {x y : Value} {d : Int} (er : Int) (hG : G.1 = er) (he : er ≠ 0) (hs : St w0 w' (prd g vb y base vo vw er :: R) Q) : ObPost w0 R Q g vb base vo vw G (.returned (.tuple #[x, .int .i64 d])) w' := by
  subst hG
  exact ⟨x, d, y, rfl, .inl ⟨he, hs⟩⟩
/-- Nothing is left. -/
theorem pobj_nil (w0 w : World) (R : List Row) (Q : List Rd) (g : Nat) (vb v base vo vw : Value) (f : ByteArray → Option (List UInt8)) (pre : List (List UInt8 × Nat)) (hs : St w0 w (prd g vb v base vo vw 0 :: R) Q) (hl : Sl w0 1 v 0 (bs [])) :
    Calls Tryz.prog 68 #[.pointer (some ⟨g, 0, none⟩)] w (ObPost w0 R Q g vb base vo vw (rdOne f pre [])) := by
  have HT := Mx.hid (ptake_short w0 w R Q g vb v base vo vw [] 1 hs hl (by simp))
  clear hs hl
  go_enter Tryz.func68, Tryz.ntmps68
  go_wp2_with fail
  refine HT.out.mono ?_
  rintro e w1 ⟨rfl, hs⟩
  have c5 : w1.cell? ⟨g, 5, none⟩ = some (.int .i64 2) := hs.rcell (List.mem_cons_self ..) rfl
  go_wp2_with fail
  go_ret2
  exact ObPost.bad 2 rfl (by simp) hs
/-- The first byte is taken. -/
theorem pobj_kind {w0 w : World} {R : List Row} {Q : List Rd} {g : Nat} {vb v base vo vw : Value} {k : UInt8} {r : List UInt8} (hs : St w0 w (prd g vb v base vo vw 0 :: R) Q) (hl : Sl w0 1 v (k :: r).length (bs (k :: r))) :
    Calls Tryz.prog 65 #[.pointer (some ⟨g, 0, none⟩), .int .i64 1] w fun e w' => ∃ (b o c : Nat) (y : Value), e = .returned (.slice (some ⟨b, o, none⟩) 1 c) ∧ w'.cell? ⟨b, o, none⟩ = some (.int .u8 (k.toNat : Int)) ∧ Sl w0 1 y r.length (bs r) ∧ w'.cell? ⟨g, 5, none⟩ = some (.int .i64 0) ∧ St w0 w' (prd g vb y base vo vw 0 :: R) Q := by
  refine (ptake_ok w0 w R Q g vb v base vo vw (k :: r) 1 hs hl (by simp)).mono ?_
  rintro e w1 ⟨x, y, rfl, hx, hy, hs⟩
  obtain ⟨ao, cap, blk, off, rfl, h1, h2, _, hc⟩ := hx.byt
  obtain ⟨rfl, c0⟩ := hc 0 (by simp)
  exact ⟨blk, off, cap, y, by simp, hs.keep c0, hy, hs.rcell (List.mem_cons_self ..) rfl, hs⟩
/-- Of no kind. -/
theorem pobj_other (w0 w : World) (R : List Row) (Q : List Rd) (g : Nat) (vb v base vo vw : Value) (f : ByteArray → Option (List UInt8)) (pre : List (List UInt8 × Nat)) (k : UInt8) (r : List UInt8) (hs : St w0 w (prd g vb v base vo vw 0 :: R) Q) (hl : Sl w0 1 v (k :: r).length (bs (k :: r))) (k0 : k ≠ 0) (k1 : k ≠ 1) (k2 : k ≠ 2) :
    Calls Tryz.prog 68 #[.pointer (some ⟨g, 0, none⟩)] w (ObPost w0 R Q g vb base vo vw (rdOne f pre (k :: r))) := by
  have HT := Mx.hid (pobj_kind hs hl)
  have hG : rdOne f pre (k :: r) = gBad 4 := by rw [rdOne, if_neg k0, if_neg k1, if_neg k2]
  have q0 : ((k.toNat : Int) == 0) = false := u8_kF (y := 0) k0
  have q1 : ((k.toNat : Int) == 1) = false := u8_kF (y := 1) k1
  have q2 : ((k.toNat : Int) == 2) = false := u8_kF (y := 2) k2
  rw [hG]
  generalize k.toNat = kk at *
  clear hs hl k0 k1 k2 hG
  go_enter Tryz.func68, Tryz.ntmps68
  go_wp2_with fail
  refine HT.out.mono ?_
  rintro e w1 ⟨kb, ko, kc, y, rfl, c0, hy, c5, hs⟩
  have HY := Mx.hid hy
  clear hy HT
  have hf := pfail_any w0 w1 _ _ g vb y base vo vw 0 4 hs
  rw [if_pos rfl] at hf
  have HFF := Mx.hid hf
  clear hf
  go_wp2_with (go_at_call 66; refine HFF.out.mono ?_; rintro e w4 ⟨rfl, hs4⟩)
  refine (pnumber_stop w4 g 4 (hs4.rcell (List.mem_cons_self ..) rfl) (by simp)).mono ?_
  rintro e w5 ⟨rfl, hk5⟩
  replace hs4 := hs4.call0 hk5
  go_wp2_with fail
  refine (ptake_stop w0 w5 R Q g vb y base vo vw r 0 4 hs4 HY.out (by simp)).mono ?_
  rintro e w6 ⟨rfl, hs6⟩
  have c6 : w6.cell? ⟨g, 5, none⟩ = some (.int .i64 4) := hs6.rcell (List.mem_cons_self ..) rfl
  go_wp2_with fail
  go_ret2
  exact ObPost.bad 4 rfl (by simp) hs6
/-- Whole. -/
theorem pobj_whole (w0 w : World) (R : List Row) (Q : List Rd) (g : Nat) (vb v base vo vw : Value) (f : ByteArray → Option (List UInt8)) (pre : List (List UInt8 × Nat)) (r : List UInt8) (hs : St w0 w (prd g vb v base vo vw 0 :: R) Q) (hl : Sl w0 1 v (0 :: r).length (bs (0 :: r))) (hn : r.length ≤ 140737488355328) :
    Calls Tryz.prog 68 #[.pointer (some ⟨g, 0, none⟩)] w (ObPost w0 R Q g vb base vo vw (rdOne f pre (0 :: r))) := by
  have HT := Mx.hid (pobj_kind hs hl)
  obtain ⟨G, hG⟩ : ∃ G, rdOne f pre (0 :: r) = G := ⟨_, rfl⟩
  rw [hG]
  rw [rdOne, if_pos rfl] at hG
  unfold rdWhole at hG
  clear hs hl
  go_enter Tryz.func68, Tryz.ntmps68
  go_wp2_with fail
  refine HT.out.mono ?_
  rintro e w1 ⟨kb, ko, kc, y, rfl, c0, hy, c5, hs⟩
  have HY := Mx.hid hy
  clear hy HT
  go_wp2_with fail
  refine (pnumber_go w0 w1 R Q g vb y base vo vw r hs HY.out hn).mono ?_
  unfold PNumPost
  rintro e w2 ⟨z, rfl, hz, hs2⟩
  have HZ := Mx.hid hz
  have hbad := fun (h : nmE r ≠ 0) => (nm_bad h).1
  have hgood := fun (h : nmE r = 0) => (nm_good h).1
  generalize nmE r = E at *
  generalize nmN r = N at *
  generalize r.drop (nmJ r) = r2 at *
  by_cases hE : E = 0
  · subst hE
    rw [if_neg (by simp)] at hG
    clear hbad hs
    by_cases hb : 20000 < N
    · rw [if_pos hb] at hG
      have d1 : decide ((20000 : Int) < (N : Int)) = true := decide_eq_true (by omega)
      have hf := pfail_any w0 w2 _ _ g vb z base vo vw 0 3 hs2
      rw [if_pos rfl] at hf
      have HFF := Mx.hid hf
      have HG := Mx.hid hG
      clear hf hz hb hgood hG
      go_wp2_with (go_at_call 66; refine HFF.out.mono ?_; rintro e w4 ⟨rfl, hs4⟩)
      refine (ptake_stop w0 w4 R Q g vb z base vo vw r2 N 3 hs4 HZ.out (by simp)).mono ?_
      rintro e w6 ⟨rfl, hs6⟩
      go_wp2_with fail
      refine (clone_any _ [] w6 (Sl.nil w6 1) (by simp)).mono ?_
      rintro e w7 ⟨v7, rfl, hk7⟩
      go_wp2_with fail
      go_ret2
      exact ObPost.bad 3 (by rw [← HG.out]; rfl) (by simp) (hs6.call0 hk7.bare)
    · rw [if_neg hb] at hG
      have d1 : decide ((20000 : Int) < (N : Int)) = false := decide_eq_false (by omega)
      by_cases hlen : r2.length < N
      · rw [if_pos hlen] at hG
        have HG := Mx.hid hG
        clear hz hb hgood hG
        go_wp2_with fail
        refine (ptake_short w0 w2 R Q g vb z base vo vw r2 N hs2 HZ.out hlen).mono ?_
        rintro e w6 ⟨rfl, hs6⟩
        go_wp2_with fail
        refine (clone_any _ [] w6 (Sl.nil w6 1) (by simp)).mono ?_
        rintro e w7 ⟨v7, rfl, hk7⟩
        go_wp2_with fail
        go_ret2
        exact ObPost.bad 2 (by rw [← HG.out]; rfl) (by simp) (hs6.call0 hk7.bare)
      · rw [if_neg hlen] at hG
        have HG := Mx.hid hG
        clear hG
        have hNl : (r2.take N).length ≤ 140737488355328 := by rw [List.length_take]; omega
        go_wp2_with fail
        refine (ptake_ok w0 w2 R Q g vb z base vo vw r2 N hs2 HZ.out (by omega)).mono ?_
        rintro e w6 ⟨x6, y6, rfl, hx6, hy6, hs6⟩
        clear hz hb hgood hlen
        go_wp2_with fail
        refine (clone_any _ (r2.take N) w6 (hs6.old hx6) hNl).mono ?_
        rintro e w7 ⟨v7, rfl, hk7⟩
        go_wp2_with fail
        go_ret2
        rw [← HG.out]
        exact ⟨_, _, y6, rfl, .inr ⟨rfl, rfl, hy6, hs6.call1 hk7⟩⟩
  · rw [if_pos hE] at hG
    have hN := hbad hE
    subst hN
    have HG := Mx.hid hG
    clear hbad hgood hz hs hG
    go_wp2_with fail
    refine (ptake_stop w0 w2 R Q g vb z base vo vw r2 0 E hs2 HZ.out hE).mono ?_
    rintro e w6 ⟨rfl, hs6⟩
    go_wp2_with fail
    refine (clone_any _ [] w6 (Sl.nil w6 1) (by simp)).mono ?_
    rintro e w7 ⟨v7, rfl, hk7⟩
    go_wp2_with fail
    go_ret2
    exact ObPost.bad E (by rw [← HG.out]; rfl) hE (hs6.call0 hk7.bare)
end Go.Proofs.YtlfdnlomlbbicaaGreatDoor

namespace Go.Mx
open Go Go.RowKit
theorem rdBack_eq (pre : List (List UInt8 × Nat)) (r : List UInt8) : rdBack pre r = if ahE pre r ≠ 0 then gBad (ahE pre r) else rdDel (pre.getD (pre.length - nmN r) ([], 0)).1 ((pre.getD (pre.length - nmN r) ([], 0)).2 + 1) (r.drop (nmJ r)) := by
  unfold rdBack ahE
  by_cases h1 : nmE r ≠ 0
  · simp only [if_pos h1]
  · simp only [if_neg h1]
    by_cases h2 : nmN r < 1 ∨ pre.length < nmN r
    · simp only [if_pos h2]; rfl
    · simp only [if_neg h2]
      by_cases h3 : 8 ≤ (pre.getD (pre.length - nmN r) ([], 0)).2
      · simp only [if_pos h3]; rfl
      · simp only [if_neg h3]; rfl
theorem rdFar_eq (f : ByteArray → Option (List UInt8)) (r : List UInt8) : rdFar f r = if elE f r ≠ 0 then gBad (elE f r) else rdDel ((elF f r).getD []) 1 (r.drop 32) := by
  unfold rdFar elE elF
  by_cases h1 : r.length < 32
  · simp only [if_pos h1]; rfl
  · simp only [if_neg h1]
    cases h : f (str (hexL (r.take 32))) with
    | none => rfl
    | some x =>
      simp only
      by_cases h2 : idB x ≠ str (hexL (r.take 32))
      · simp only [if_pos h2]; rfl
      · simp only [if_neg h2]; rfl
end Go.Mx
namespace Go.Proofs.YtlfdnlomlbbicaaGreatDoor
open Go.RowKit Go.Mx
set_option maxRecDepth 100000 in
set_option maxHeartbeats 2000000 in
/-- By one ahead. -/
theorem pobj_back (w0 w : World) (R : List Row) (Q : List Rd) (g : Nat) (vb v base vo vw : Value) (f : ByteArray → Option (List UInt8)) (pre : List (List UInt8 × Nat)) (pl : List Nat) (us : List Value) (r : List UInt8)
    (hs : St w0 w (prd g vb v base vo vw 0 :: orow vo pre.length us :: wrow vw pre.length (rws pre pl) :: R) Q) (hl : Sl w0 1 v (1 :: r).length (bs (1 :: r))) (hn : r.length ≤ 140737488355328)
    (hpl : pl.length = pre.length) (hus : us.length = pre.length) (hm : pre.length ≤ 512) (hpz : ∀ p ∈ pre, p.1.length ≤ 20000)
    (hU : ∀ (k : Nat) (p : List UInt8 × Nat), pre[k]? = some p → ∀ u, us[k]? = some u → (⟨u, 1, p.1.length, bs p.1⟩ : Rd) ∈ Q) :
    Calls Tryz.prog 68 #[.pointer (some ⟨g, 0, none⟩)] w (ObPost w0 (orow vo pre.length us :: wrow vw pre.length (rws pre pl) :: R) Q g vb base vo vw (rdOne f pre (1 :: r))) := by
  have HT := Mx.hid (pobj_kind hs hl)
  obtain ⟨G, hG⟩ : ∃ G, rdOne f pre (1 :: r) = G := ⟨_, rfl⟩
  rw [hG]
  rw [rdOne, if_neg (by decide), if_pos rfl, rdBack_eq] at hG
  have HU := Mx.hid hU
  have HPZ := Mx.hid hpz
  have HPL := Mx.hid hpl
  have HUS := Mx.hid hus
  clear hs hl hU hpz hpl hus
  go_enter Tryz.func68, Tryz.ntmps68
  go_wp2_with fail
  refine HT.out.mono ?_
  rintro e w1 ⟨kb, ko, kc, y, rfl, c0, hy, c5, hs⟩
  have HY := Mx.hid hy
  clear hy HT
  go_wp2_with fail
  refine (pahead_any w0 w1 R Q g vb y base vo vw pre pl us r hs HPL.out HUS.out hm HY.out hn).mono ?_
  unfold AhPost
  rintro e w4 ⟨vx, D, y, rfl, hy, hs4, hok⟩
  have HY := Mx.hid hy
  have hn2 : (r.drop (nmJ r)).length ≤ 140737488355328 := by rw [List.length_drop]; omega
  clear hs
  by_cases hA : ahE pre r = 0
  · obtain ⟨hu, hd⟩ := hok hA
    have hle : nmN r ≤ pre.length ∧ 1 ≤ nmN r ∧ (pre.getD (pre.length - nmN r) ([], 0)).2 < 8 := by
      unfold ahE at hA
      split at hA
      · omega
      · split at hA
        · omega
        · split at hA
          · omega
          · omega
    have hk : pre.length - nmN r < pre.length := by omega
    have hpg : pre[pre.length - nmN r]? = some (pre.getD (pre.length - nmN r) ([], 0)) := by rw [List.getD_eq_getElem?_getD, List.getElem?_eq_getElem hk]; rfl
    have HMEM := Mx.hid (HU.out _ _ hpg _ hu)
    have hbl : (pre.getD (pre.length - nmN r) ([], 0)).1.length ≤ 140737488355328 := by have := HPZ.out _ (List.mem_of_getElem? hpg); omega
    rw [hA] at hs4
    rw [if_neg (by simpa using hA), hd] at hG
    rw [hd] at hle
    have hD8 : (D : Int) < 8 := by omega
    have HQ := Mx.hid (fun (w' : World) (R' : List Row) (h : St w0 w' R' Q) => h)
    have HZ := HY
    have hs2 := hs4
    clear hA hu hd hle hk hpg hok hy HY hs4 HU HPZ
    generalize (pre.getD (pre.length - nmN r) ([], 0)).1 = bb at *
    generalize r.drop (nmJ r) = r2 at *
    go_wp2_with fail
    refine (pnumber_go w0 w4 _ _ g vb y base vo vw r2 hs2 HZ.out hn2).mono ?_
    unfold PNumPost
    rintro e w3 ⟨z3, rfl, hz3, hs3⟩
    have HZ3 := Mx.hid hz3
    unfold rdDel at hG
    have hbad := fun (h : nmE r2 ≠ 0) => (nm_bad h).1
    have hn3 : (r2.drop (nmJ r2)).length ≤ 140737488355328 := by rw [List.length_drop]; omega
    generalize nmE r2 = E at *
    generalize nmN r2 = N at *
    generalize r2.drop (nmJ r2) = r3 at *
    clear hz3 hs2
    by_cases hE : E = 0
    · subst hE
      rw [if_neg (by simp)] at hG
      clear hbad
      by_cases hlen : r3.length < N
      · rw [if_pos hlen] at hG
        go_wp2_with fail
        refine (ptake_short w0 w3 _ _ g vb z3 base vo vw r3 N hs3 HZ3.out hlen).mono ?_
        rintro e w6 ⟨rfl, hs6⟩
        have c6 : w6.cell? ⟨g, 5, none⟩ = some (.int .i64 2) := hs6.rcell (List.mem_cons_self ..) rfl
        have HG := Mx.hid hG
        clear hlen hG
        go_wp2_with fail
        go_ret2
        exact ObPost.bad 2 (by rw [← HG.out]; rfl) (by simp) (HQ.out _ _ hs6)
      · rw [if_neg hlen] at hG
        have hNl : (r3.take N).length ≤ 140737488355328 := by rw [List.length_take]; omega
        go_wp2_with fail
        refine (ptake_ok w0 w3 _ _ g vb z3 base vo vw r3 N hs3 HZ3.out (by omega)).mono ?_
        rintro e w6 ⟨x6, y6, rfl, hx6, hy6, hs6⟩
        have c6 : w6.cell? ⟨g, 5, none⟩ = some (.int .i64 0) := hs6.rcell (List.mem_cons_self ..) rfl
        have HY6 := Mx.hid hy6
        have HAP := Mx.hid (apply_any w6 vx x6 bb (r3.take N) (hs6.rd _ HMEM.out) (hs6.old hx6) hbl hNl)
        unfold ApplyPost at HAP
        clear hlen hy6 hx6 hs3
        generalize r3.drop N = r4 at *
        generalize (apR bb (r3.take N)).1 = A at *
        generalize (apR bb (r3.take N)).2 = X at *
        go_wp2_with fail
        refine HAP.out.mono ?_
        rintro e w7 ⟨v7, rfl, hk7⟩
        have HFF := Mx.hid (pfail_any w0 w7 _ _ g vb y6 base vo vw 0 A (hs6.call1 hk7).swap)
        rw [if_pos rfl] at HFF
        clear hk7 HAP c6
        have HG := Mx.hid hG
        clear hG
        go_wp2_with fail
        refine HFF.out.mono ?_
        rintro e w8 ⟨rfl, hs8⟩
        go_wp2_with fail
        go_ret2
        by_cases hA : A = 0
        · subst hA
          have hG := HG.out
          rw [if_neg (by simp)] at hG
          rw [← hG]
          exact ⟨_, _, y6, rfl, .inr ⟨rfl, rfl, HY6.out, HQ.out _ _ hs8.swap⟩⟩
        · have hG := HG.out
          rw [if_pos hA] at hG
          exact ObPost.bad A (by rw [← hG]; rfl) hA (HQ.out _ _ (hs8.sub (List.Sublist.cons_cons _ (List.sublist_cons_self _ _)) fun _ h => h))
    · rw [if_pos hE] at hG
      have hN := hbad hE
      subst hN
      have HG := Mx.hid hG
      clear hbad hG
      go_wp2_with fail
      refine (ptake_stop w0 w3 _ _ g vb z3 base vo vw r3 0 E hs3 HZ3.out hE).mono ?_
      rintro e w6 ⟨rfl, hs6⟩
      have c6 : w6.cell? ⟨g, 5, none⟩ = some (.int .i64 E) := hs6.rcell (List.mem_cons_self ..) rfl
      have hE' : (E != 0) = true := by simpa using hE
      go_wp2_with fail
      go_ret2
      exact ObPost.bad E (by rw [← HG.out]; rfl) hE (HQ.out _ _ hs6)
  · rw [if_pos hA] at hG
    have HG := Mx.hid hG
    clear hok hy hG
    generalize ahE pre r = A at *
    have hA' : (A != 0) = true := by simpa using hA
    go_wp2_with fail
    refine (pnumber_stop w4 g A (hs4.rcell (List.mem_cons_self ..) rfl) hA).mono ?_
    rintro e w5 ⟨rfl, hk5⟩
    replace hs4 := hs4.call0 hk5
    go_wp2_with fail
    refine (ptake_stop w0 w5 _ _ g vb y base vo vw (r.drop (nmJ r)) 0 A hs4 HY.out hA).mono ?_
    rintro e w6 ⟨rfl, hs6⟩
    have c6 : w6.cell? ⟨g, 5, none⟩ = some (.int .i64 A) := hs6.rcell (List.mem_cons_self ..) rfl
    go_wp2_with fail
    go_ret2
    exact ObPost.bad A (by rw [← HG.out]; rfl) hA hs6
set_option maxRecDepth 100000 in
set_option maxHeartbeats 2000000 in
/-- By one elsewhere. -/
theorem pobj_far (w0 w : World) (R : List Row) (Q : List Rd) (g : Nat) (vb v vo vw : Value) (fb : FuncId) (caps : Array Value) (f : ByteArray → Option (List UInt8)) (pre : List (List UInt8 × Nat)) (r : List UInt8)
    (hs : St w0 w (prd g vb v (.func (.func fb) #[] caps) vo vw 0 :: R) Q) (hl : Sl w0 1 v (2 :: r).length (bs (2 :: r))) (hn : r.length ≤ 140737488355328) (hB : BaseOk fb caps f w0) (hbz : ∀ id x, f id = some x → x.length ≤ 1000000000) (hL : Laid w0) :
    Calls Tryz.prog 68 #[.pointer (some ⟨g, 0, none⟩)] w (ObPost w0 R Q g vb (.func (.func fb) #[] caps) vo vw (rdOne f pre (2 :: r))) := by
  have HT := Mx.hid (pobj_kind hs hl)
  obtain ⟨G, hG⟩ : ∃ G, rdOne f pre (2 :: r) = G := ⟨_, rfl⟩
  rw [hG]
  rw [rdOne, if_neg (by decide), if_neg (by decide), if_pos rfl, rdFar_eq] at hG
  have HB := Mx.hid hB
  have HBZ := Mx.hid hbz
  clear hs hl hB hbz
  generalize hbase : Value.func (.func fb) #[] caps = base at *
  go_enter Tryz.func68, Tryz.ntmps68
  go_wp2_with fail
  refine HT.out.mono ?_
  rintro e w1 ⟨kb, ko, kc, y, rfl, c0, hy, c5, hs⟩
  have HY := Mx.hid hy
  clear hy HT
  subst hbase
  go_wp2_with fail
  refine (pelse_any w0 w1 R Q g vb y vo vw fb caps f r hs HY.out hn HB.out HBZ.out hL).mono ?_
  unfold ElPost
  rintro e w4 (⟨hA, vx, y2, r2, rfl, hy2, hs4⟩ | ⟨hA, h32, vx, bb, z, hF, rfl, hz, hs2⟩)
  · rw [if_pos hA] at hG
    have HG := Mx.hid hG
    clear hG
    generalize elE f r = A at *
    have hA' : (A != 0) = true := by simpa using hA
    have HY := Mx.hid hy2
    generalize Value.func (.func fb) #[] caps = base at *
    clear hs hy2 HB HBZ
    go_wp2_with fail
    refine (pnumber_stop w4 g A (hs4.rcell (List.mem_cons_self ..) rfl) hA).mono ?_
    rintro e w5 ⟨rfl, hk5⟩
    replace hs4 := hs4.call0 hk5
    go_wp2_with fail
    refine (ptake_stop w0 w5 _ _ g vb y2 base vo vw r2 0 A hs4 HY.out hA).mono ?_
    rintro e w6 ⟨rfl, hs6⟩
    have c6 : w6.cell? ⟨g, 5, none⟩ = some (.int .i64 A) := hs6.rcell (List.mem_cons_self ..) rfl
    go_wp2_with fail
    go_ret2
    exact ObPost.bad A (by rw [← HG.out]; rfl) hA hs6
  · rw [if_neg (by simpa using hA), hF] at hG
    have HZ := Mx.hid hz
    have hbl : bb.length ≤ 140737488355328 := by have := HBZ.out _ _ hF; omega
    have HQ := Mx.hid (fun (w' : World) (R' : List Row) (h : St w0 w' R' (⟨vx, 1, bb.length, bs bb⟩ :: Q)) => h.tailQ)
    have HMEM := Mx.hid (show (⟨vx, 1, bb.length, bs bb⟩ : Rd) ∈ (⟨vx, 1, bb.length, bs bb⟩ :: Q : List Rd) from List.mem_cons_self ..)
    have hn2 : (r.drop 32).length ≤ 140737488355328 := by rw [List.length_drop]; omega
    simp only [Option.getD_some] at hG
    generalize r.drop 32 = r2 at *
    generalize Value.func (.func fb) #[] caps = base at *
    clear hA h32 hF hz hs HB HBZ
    go_wp2_with fail
    refine (pnumber_go w0 w4 _ _ g vb z base vo vw r2 hs2 HZ.out hn2).mono ?_
    unfold PNumPost
    rintro e w3 ⟨z3, rfl, hz3, hs3⟩
    have HZ3 := Mx.hid hz3
    unfold rdDel at hG
    have hbad := fun (h : nmE r2 ≠ 0) => (nm_bad h).1
    have hn3 : (r2.drop (nmJ r2)).length ≤ 140737488355328 := by rw [List.length_drop]; omega
    generalize nmE r2 = E at *
    generalize nmN r2 = N at *
    generalize r2.drop (nmJ r2) = r3 at *
    clear hz3 hs2
    by_cases hE : E = 0
    · subst hE
      rw [if_neg (by simp)] at hG
      clear hbad
      by_cases hlen : r3.length < N
      · rw [if_pos hlen] at hG
        go_wp2_with fail
        refine (ptake_short w0 w3 _ _ g vb z3 base vo vw r3 N hs3 HZ3.out hlen).mono ?_
        rintro e w6 ⟨rfl, hs6⟩
        have c6 : w6.cell? ⟨g, 5, none⟩ = some (.int .i64 2) := hs6.rcell (List.mem_cons_self ..) rfl
        have HG := Mx.hid hG
        clear hlen hG
        go_wp2_with fail
        go_ret2
        exact ObPost.bad 2 (by rw [← HG.out]; rfl) (by simp) (HQ.out _ _ hs6)
      · rw [if_neg hlen] at hG
        have hNl : (r3.take N).length ≤ 140737488355328 := by rw [List.length_take]; omega
        go_wp2_with fail
        refine (ptake_ok w0 w3 _ _ g vb z3 base vo vw r3 N hs3 HZ3.out (by omega)).mono ?_
        rintro e w6 ⟨x6, y6, rfl, hx6, hy6, hs6⟩
        have c6 : w6.cell? ⟨g, 5, none⟩ = some (.int .i64 0) := hs6.rcell (List.mem_cons_self ..) rfl
        have HY6 := Mx.hid hy6
        have HAP := Mx.hid (apply_any w6 vx x6 bb (r3.take N) (hs6.rd _ HMEM.out) (hs6.old hx6) hbl hNl)
        unfold ApplyPost at HAP
        clear hlen hy6 hx6 hs3
        generalize r3.drop N = r4 at *
        generalize (apR bb (r3.take N)).1 = A at *
        generalize (apR bb (r3.take N)).2 = X at *
        go_wp2_with fail
        refine HAP.out.mono ?_
        rintro e w7 ⟨v7, rfl, hk7⟩
        have HFF := Mx.hid (pfail_any w0 w7 _ _ g vb y6 base vo vw 0 A (hs6.call1 hk7).swap)
        rw [if_pos rfl] at HFF
        clear hk7 HAP c6
        have HG := Mx.hid hG
        clear hG
        go_wp2_with fail
        refine HFF.out.mono ?_
        rintro e w8 ⟨rfl, hs8⟩
        go_wp2_with fail
        go_ret2
        by_cases hA : A = 0
        · subst hA
          have hG := HG.out
          rw [if_neg (by simp)] at hG
          rw [← hG]
          exact ⟨_, _, y6, rfl, .inr ⟨rfl, rfl, HY6.out, HQ.out _ _ hs8.swap⟩⟩
        · have hG := HG.out
          rw [if_pos hA] at hG
          exact ObPost.bad A (by rw [← hG]; rfl) hA (HQ.out _ _ (hs8.sub (List.Sublist.cons_cons _ (List.sublist_cons_self _ _)) fun _ h => h))
    · rw [if_pos hE] at hG
      have hN := hbad hE
      subst hN
      have HG := Mx.hid hG
      clear hbad hG
      go_wp2_with fail
      refine (ptake_stop w0 w3 _ _ g vb z3 base vo vw r3 0 E hs3 HZ3.out hE).mono ?_
      rintro e w6 ⟨rfl, hs6⟩
      have c6 : w6.cell? ⟨g, 5, none⟩ = some (.int .i64 E) := hs6.rcell (List.mem_cons_self ..) rfl
      have hE' : (E != 0) = true := by simpa using hE
      go_wp2_with fail
      go_ret2
      exact ObPost.bad E (by rw [← HG.out]; rfl) hE (HQ.out _ _ hs6)
end Go.Proofs.YtlfdnlomlbbicaaGreatDoor

namespace Go.Mx
open Go Go.RowKit
theorem stepsR_le (base : List UInt8) (to : Nat) : ∀ (n : Nat) (l out : List UInt8), l.length ≤ n → out.length ≤ to → (stepsR base to l out).2.length ≤ to
  | n, [], out, _, h => by
    rw [stepsR]
    split
    · exact Nat.zero_le _
    · exact h
  | n + 1, kind :: l, out, hn, h => by
    rw [stepsR]
    split
    · exact Nat.zero_le _
    · split
      · exact Nat.zero_le _
      · refine stepsR_le base to n _ _ ?_ ?_
        · have := stepR_len base kind l
          simp at hn
          omega
        · rw [List.length_append]; omega
theorem apR_le (base d : List UInt8) : (apR base d).2.length ≤ 20000 := by
  unfold apR
  split
  · exact Nat.zero_le _
  · split
    · exact Nat.zero_le _
    · split
      · exact Nat.zero_le _
      · have := stepsR_le base (szB d) (szR d).length (szR d) [] (Nat.le_refl _) (Nat.zero_le _)
        omega
theorem rdDel_le (b : List UInt8) (d : Nat) (r : List UInt8) : (rdDel b d r).2.1.length ≤ 20000 := by
  unfold rdDel gBad
  repeat' split
  all_goals first | exact Nat.zero_le _ | exact apR_le _ _
theorem rdOne_le (f : ByteArray → Option (List UInt8)) (pre : List (List UInt8 × Nat)) (l : List UInt8) : (rdOne f pre l).2.1.length ≤ 20000 := by
  cases l with
  | nil => exact Nat.zero_le _
  | cons k r =>
    rw [rdOne]
    split
    · unfold rdWhole gBad
      repeat' split
      all_goals first | exact Nat.zero_le _ | (rw [List.length_take]; omega)
    · split
      · unfold rdBack gBad
        repeat' split
        all_goals first | exact Nat.zero_le _ | exact rdDel_le _ _ _
      · split
        · unfold rdFar gBad
          repeat' split
          all_goals first | exact Nat.zero_le _ | exact rdDel_le _ _ _
        · exact Nat.zero_le _
theorem rdDel_rest (b : List UInt8) (d : Nat) (r : List UInt8) : (rdDel b d r).2.2.2.length ≤ r.length := by
  unfold rdDel gBad
  repeat' split
  all_goals first | exact Nat.zero_le _ | (simp only [List.length_drop]; omega)
theorem rdOne_rest (f : ByteArray → Option (List UInt8)) (pre : List (List UInt8 × Nat)) (l : List UInt8) : (rdOne f pre l).2.2.2.length ≤ l.length := by
  cases l with
  | nil => exact Nat.zero_le _
  | cons k r =>
    rw [rdOne, List.length_cons]
    split
    · unfold rdWhole gBad
      repeat' split
      all_goals first | exact Nat.zero_le _ | (simp only [List.length_drop]; omega)
    · split
      · unfold rdBack gBad
        repeat' split
        all_goals first | exact Nat.zero_le _ | (refine Nat.le_trans (rdDel_rest _ _ _) ?_; rw [List.length_drop]; omega)
      · split
        · unfold rdFar gBad
          repeat' split
          all_goals first | exact Nat.zero_le _ | (refine Nat.le_trans (rdDel_rest _ _ _) ?_; rw [List.length_drop]; omega)
        · exact Nat.zero_le _
theorem rds_mem {us : List Value} {pre : List (List UInt8 × Nat)} (k : Nat) (p : List UInt8 × Nat) (hp : pre[k]? = some p) (u : Value) (hu : us[k]? = some u) : (⟨u, 1, p.1.length, bs p.1⟩ : Rd) ∈ rds us (pre.map Prod.fst) := by
  refine List.mem_of_getElem? (i := k) ?_
  rw [rds, List.getElem?_zipWith, hu, List.getElem?_map, hp]
  rfl
end Go.Mx
namespace Go.Proofs.YtlfdnlomlbbicaaGreatDoor
open Go.RowKit Go.Mx
theorem Tryz.elRow : El Tryz.prog 42 49 3 32 := El.mk' Tryz.underlying42 (z := .agg #[.string ByteArray.empty, .int .i64 0, .int .i64 0]) (by kernel_rfl) rfl (by omega)
theorem pobj_any (w0 w : World) (R : List Row) (Q : List Rd) (g : Nat) (vb v vo vw : Value) (fb : FuncId) (caps : Array Value) (f : ByteArray → Option (List UInt8)) (pre : List (List UInt8 × Nat)) (pl : List Nat) (us : List Value) (l : List UInt8)
    (hs : St w0 w (prd g vb v (.func (.func fb) #[] caps) vo vw 0 :: orow vo pre.length us :: wrow vw pre.length (rws pre pl) :: R) Q) (hl : Sl w0 1 v l.length (bs l)) (hn : l.length ≤ 140737488355328)
    (hpl : pl.length = pre.length) (hus : us.length = pre.length) (hm : pre.length ≤ 512) (hpz : ∀ p ∈ pre, p.1.length ≤ 20000)
    (hU : ∀ (k : Nat) (p : List UInt8 × Nat), pre[k]? = some p → ∀ u, us[k]? = some u → (⟨u, 1, p.1.length, bs p.1⟩ : Rd) ∈ Q)
    (hB : BaseOk fb caps f w0) (hbz : ∀ id x, f id = some x → x.length ≤ 1000000000) (hL : Laid w0) :
    Calls Tryz.prog 68 #[.pointer (some ⟨g, 0, none⟩)] w (ObPost w0 (orow vo pre.length us :: wrow vw pre.length (rws pre pl) :: R) Q g vb (.func (.func fb) #[] caps) vo vw (rdOne f pre l)) := by
  cases l with
  | nil => exact pobj_nil w0 w _ Q g vb v _ vo vw f pre hs hl
  | cons k r =>
    have hr : r.length ≤ 140737488355328 := by simp at hn; omega
    by_cases k0 : k = 0
    · subst k0; exact pobj_whole w0 w _ Q g vb v _ vo vw f pre r hs hl hr
    · by_cases k1 : k = 1
      · subst k1; exact pobj_back w0 w R Q g vb v _ vo vw f pre pl us r hs hl hr hpl hus hm hpz hU
      · by_cases k2 : k = 2
        · subst k2; exact pobj_far w0 w _ Q g vb v vo vw fb caps f pre r hs hl hr hB hbz hL
        · exact pobj_other w0 w _ Q g vb v _ vo vw f pre k r hs hl k0 k1 k2

/-- What a reader has when it is done. -/
def AllPost (w0 : World) (g : Nat) (vb base : Value) (X : Int × List (List UInt8 × Nat) × List Nat) (e : Ending) (w' : World) : Prop :=
  e = .returned (.tuple #[]) ∧ ∃ vr vo vw us, us.length = X.2.1.length ∧ X.2.2.length = X.2.1.length ∧ X.2.1.length ≤ 512 ∧
    St w0 w' [prd g vb vr base vo vw X.1, orow vo X.2.1.length us, wrow vw X.2.1.length (rws X.2.1 X.2.2)] (rds us (X.2.1.map Prod.fst))
end Go.Proofs.YtlfdnlomlbbicaaGreatDoor

namespace Go.Mx
open Go Go.RowKit
theorem rdAll_bad {f : ByteArray → Option (List UInt8)} {len n : Nat} {pre : List (List UInt8 × Nat)} {pl : List Nat} {r : List UInt8} (h : (rdOne f pre r).1 ≠ 0) : rdAll f len (n + 1) pre pl r = ((rdOne f pre r).1, pre, pl) := by
  have h1 : rdObj f pre r = rdOne f pre r := by unfold rdObj; rw [if_pos h]
  rw [rdAll, h1, if_pos h]
theorem rdAll_form {f : ByteArray → Option (List UInt8)} {len n : Nat} {pre : List (List UInt8 × Nat)} {pl : List Nat} {r : List UInt8} (h : (rdOne f pre r).1 = 0) (hd : (decO (rdOne f pre r).2.1).2 ≠ 0) : rdAll f len (n + 1) pre pl r = (4, pre, pl) := by
  have h1 : rdObj f pre r = gBad 4 := by unfold rdObj; rw [if_neg (by simpa using h), if_pos hd]
  rw [rdAll, h1, if_pos (by simp [gBad])]
  rfl
theorem rdAll_step {f : ByteArray → Option (List UInt8)} {len n : Nat} {pre : List (List UInt8 × Nat)} {pl : List Nat} {r : List UInt8} (h : (rdOne f pre r).1 = 0) (hd : (decO (rdOne f pre r).2.1).2 = 0) :
    rdAll f len (n + 1) pre pl r = rdAll f len n (pre ++ [((rdOne f pre r).2.1, (rdOne f pre r).2.2.1)]) (pl ++ [len - r.length]) (rdOne f pre r).2.2.2 := by
  have h1 : rdObj f pre r = rdOne f pre r := by unfold rdObj; rw [if_neg (by simpa using h), if_neg (by simpa using hd)]
  rw [rdAll, h1, if_neg (by simpa using h)]
end Go.Mx
namespace Go.Proofs.YtlfdnlomlbbicaaGreatDoor
open Go.RowKit Go.Mx
set_option maxRecDepth 100000 in
set_option maxHeartbeats 4000000 in
theorem pall_any (w0 w : World) (g : Nat) (v : Value) (fb : FuncId) (caps : Array Value) (f : ByteArray → Option (List UInt8)) (body : List UInt8)
    (hs : St w0 w [prd g v v (.func (.func fb) #[] caps) (.slice none 0 0) (.slice none 0 0) 0] []) (hl : Sl w0 1 v body.length (bs body)) (hn : body.length ≤ 140737488355328) (h4 : 4 ≤ body.length)
    (hB : BaseOk fb caps f w0) (hbz : ∀ id x, f id = some x → x.length ≤ 1000000000) (hL : Laid w0) :
    Calls Tryz.prog 49 #[.pointer (some ⟨g, 0, none⟩)] w (AllPost w0 g v (.func (.func fb) #[] caps) (rdBody f body)) := by
  obtain ⟨X, hX⟩ : ∃ X, rdBody f body = X := ⟨_, rfl⟩
  rw [hX]
  have HT := Mx.hid (ptake_ok w0 w _ _ g v v _ _ _ body 3 hs hl (by omega))
  have HB := Mx.hid hB
  have HBZ := Mx.hid hbz
  obtain ⟨vbo, vbc, rfl, _⟩ := id hl
  generalize hvb : Value.slice vbo body.length vbc = vb at *
  have HVB := Mx.hid hvb
  clear hvb
  unfold rdBody at hX
  have ht := str_beq (body.take 3) [77, 80, 49]
  rw [str_toL [77, 80, 49]] at ht
  have hn3 : (body.drop 3).length ≤ 140737488355328 := by rw [List.length_drop]; omega
  clear hl hB hbz hs
  go_enter Tryz.func49, Tryz.ntmps49
  go_wp2_with fail
  refine HT.out.mono ?_
  rintro e w1 ⟨x1, y1, rfl, hx1, hy1, hs⟩
  have HY1 := Mx.hid hy1
  have hx1' := hs.old hx1
  clear HT hx1 hy1
  have HNIL := Mx.hid (fun (A : Int) (y : Value) (w9 : World) (hXA : X = (A, [], [])) (h : St w0 w9 [prd g vb y (.func (.func fb) #[] caps) (.slice none 0 0) (.slice none 0 0) A] []) => (show AllPost w0 g vb (.func (.func fb) #[] caps) X (.returned (.tuple #[])) w9 by
    subst hXA
    exact ⟨rfl, y, .slice none 0 0, .slice none 0 0, [], rfl, rfl, by simp, ((h.addNil 25 1).addNil 49 3).perm (List.reverse_perm [_, _, _]).symm⟩))
  generalize hbase : Value.func (.func fb) #[] caps = base at *
  by_cases hmag : body.take 3 = [77, 80, 49]
  · rw [if_neg (by simpa using hmag)] at hX
    rw [decide_eq_true hmag] at ht
    clear hmag
    go_wp2_with (first | ((with_reducible show wpList _ _ _ _ _ _); refine wpl_b2s rfl 25 9 5 _ rfl Tryz.underlying25 Tryz.underlying5 Tryz.underlying9 (by exact hx1') ?_))
    refine (pnumber_go w0 w1 _ _ g vb y1 base _ _ (body.drop 3) hs HY1.out hn3).mono ?_
    unfold PNumPost
    rintro e w2 ⟨y2, rfl, hy2, hs2⟩
    have HY2 := Mx.hid hy2
    have hbad := fun (h : nmE (body.drop 3) ≠ 0) => (nm_bad h).1
    have hgood := fun (h : nmE (body.drop 3) = 0) => (nm_good h).1
    have hn4 : ((body.drop 3).drop (nmJ (body.drop 3))).length ≤ body.length := by rw [List.length_drop, List.length_drop]; omega
    generalize nmE (body.drop 3) = E at *
    generalize nmN (body.drop 3) = M at *
    generalize (body.drop 3).drop (nmJ (body.drop 3)) = l0 at *
    obtain ⟨yo, yc, rfl, _⟩ := id hy2
    clear hs hy2
    by_cases hE : E = 0
    · subst hE
      rw [if_neg (by simp)] at hX
      have hM := hgood rfl
      clear hbad hgood
      by_cases hb : 512 < M
      · rw [if_pos hb] at hX
        have HP := Mx.hid (fun (y : Value) (w9 : World) h => HNIL.out 14 y w9 hX.symm h)
        have hA : (14 : Int) ≠ 0 := by simp
        have d1 : decide ((512 : Int) < (M : Int)) = true := decide_eq_true (by omega)
        have d2 : decide ((0 : Int) < (M : Int)) = true := decide_eq_true (by omega)
        have d2' : decide (0 < M) = true := decide_eq_true (by omega)
        have d2'' : 0 < M := by omega
        have hf := pfail_any w0 w2 _ _ g vb (.slice yo l0.length yc) base _ _ 0 14 hs2
        rw [if_pos rfl] at hf
        have HFF := Mx.hid hf
        clear hf hX hb hs2
        generalize l0.length = L at *
        go_wp2_with (go_at_call 66; refine HFF.out.mono ?_; rintro e w3 ⟨rfl, hs⟩)
        go_loopw [3] (fun q wr => q = .int .i64 0 ∧ w3 = wr) (fun _ _ => 0)
        case atStart => exact ⟨rfl, rfl⟩
        case round =>
          obtain ⟨rfl, rfl⟩ := hrel
          have c1 : w3.cell? ⟨g, 1, none⟩ = some (.slice yo L yc) := hs.rcell (List.mem_cons_self ..) rfl
          have c5 : w3.cell? ⟨g, 5, none⟩ = some (.int .i64 14) := hs.rcell (List.mem_cons_self ..) rfl
          by_cases hz0 : 0 < L
          · have f1 : decide ((0 : Int) < (L : Int)) = true := decide_eq_true (by omega)
            have f2 : decide (0 < L) = true := decide_eq_true hz0
            have hfz := pfail_any w0 w3 _ _ g vb (.slice yo L yc) base _ _ 14 3 hs
            rw [if_neg hA] at hfz
            have HFZ := Mx.hid hfz
            clear hfz hz0
            go_wp2_with (first | ((with_reducible show wpList _ _ _ _ _ _); refine wpl_want rfl ?_) | (go_at_call 66; refine HFZ.out.mono ?_; rintro e w9 ⟨rfl, hs9⟩))
            go_end0
            exact HP.out _ _ hs9
          · have f1 : decide ((0 : Int) < (L : Int)) = false := decide_eq_false (by omega)
            have f2 : decide (0 < L) = false := decide_eq_false hz0
            clear hz0
            go_wp2_with (first | ((with_reducible show wpList _ _ _ _ _ _); refine wpl_want rfl ?_))
            go_end0
            exact HP.out _ _ hs
      · rw [if_neg hb] at hX
        have d1 : decide ((512 : Int) < (M : Int)) = false := decide_eq_false (by omega)
        have HX := Mx.hid hX
        clear hX
        have hM5 : M ≤ 512 := by omega
        clear hM hb
        subst hbase
        have hs3 := ((hs2.addNil 25 1).addNil 49 3).perm (List.reverse_perm [_, _, _]).symm
        have HS3 : Hid (St w0 w2 [prd g vb (.slice yo l0.length yc) (.func (.func fb) #[] caps) (.slice none 0 0) (.slice none 0 0) 0, orow (.slice none 0 0) 0 [], wrow (.slice none 0 0) 0 (rws [] [])] []) := hs3
        clear hs2 hs3
        go_wp2_with fail
        go_loopw [3] (fun q wr => ∃ (i : Nat) (pre : List (List UInt8 × Nat)) (pl : List Nat) (us : List Value) (vr vo vw : Value) (l : List UInt8), q = .int .i64 i ∧ i ≤ M ∧ Hid (pre.length = i) ∧ Hid (pl.length = i) ∧ Hid (us.length = i) ∧ Hid (∀ p ∈ pre, p.1.length ≤ 20000) ∧ Hid (rdAll f body.length (M - i) pre pl l = X) ∧ Hid (Sl w0 1 vr l.length (bs l)) ∧ l.length ≤ body.length ∧
            St w0 wr [prd g vb vr (.func (.func fb) #[] caps) vo vw 0, orow vo pre.length us, wrow vw pre.length (rws pre pl)] (rds us (pre.map Prod.fst))) (fun q _ => M - (intOf q).toNat)
        case atStart => exact ⟨0, [], [], [], _, _, _, l0, rfl, by omega, rfl, rfl, rfl, by simp [Hid], Mx.hid HX.out, HY2, hn4, HS3.out⟩
        case round =>
          clear HS3 HX HY2 hn4
          obtain ⟨i, pre, pl, us, vr, vo, vw, l, rfl, hi, HP1, HP2, HP3, HPZ, HX, HVR, hll, hs⟩ := hrel
          obtain ⟨ro, rc, rfl, _⟩ := id HVR.out
          have c5 : wr.cell? ⟨g, 5, none⟩ = some (.int .i64 0) := hs.rcell (List.mem_cons_self ..) rfl
          have c1 : wr.cell? ⟨g, 1, none⟩ = some (.slice ro l.length rc) := hs.rcell (List.mem_cons_self ..) rfl
          by_cases hlt : i < M
          · have hMi : M - i = (M - (i + 1)) + 1 := by omega
            rw [hMi] at HX
            have hi5 : pre.length ≤ 512 := by rw [HP1.out]; omega
            have HOB := Mx.hid (fun (wx : World) (h : St w0 wx [prd g vb (.slice ro l.length rc) (.func (.func fb) #[] caps) vo vw 0, orow vo pre.length us, wrow vw pre.length (rws pre pl)] (rds us (pre.map Prod.fst))) => pobj_any w0 wx [] _ g vb (.slice ro l.length rc) vo vw fb caps f pre pl us l h HVR.out (by omega) (by rw [HP2.out, HP1.out]) (by rw [HP3.out, HP1.out]) hi5 HPZ.out rds_mem HB.out HBZ.out hL)
            have hBAD := fun h => (rdAll_bad (f := f) (len := body.length) (n := M - (i + 1)) (pre := pre) (pl := pl) (r := l) h).symm.trans HX.out
            have hFRM := fun h h2 => (rdAll_form (f := f) (len := body.length) (n := M - (i + 1)) (pre := pre) (pl := pl) (r := l) h h2).symm.trans HX.out
            have hSTP := fun h h2 => (rdAll_step (f := f) (len := body.length) (n := M - (i + 1)) (pre := pre) (pl := pl) (r := l) h h2).symm.trans HX.out
            have hxl := rdOne_le f pre l
            have hrl := rdOne_rest f pre l
            obtain ⟨P, hP⟩ : ∃ P, body.length - l.length = P := ⟨_, rfl⟩
            have hPI : (body.length : Int) - (l.length : Int) = (P : Int) := by omega
            rw [hP] at hSTP
            have d3 : decide (i < M) = true := decide_eq_true hlt
            have d4 : (i : Int) < (M : Int) := by omega
            have hvb := HVB.out
            have c0 : wr.cell? ⟨g, 0, none⟩ = some vb := hs.rcell (List.mem_cons_self ..) rfl
            rw [← hvb] at c0
            clear HX hMi hvb
            generalize rdOne f pre l = G at *
            obtain ⟨er, X1, dp, l2⟩ := G
            simp only at hBAD hFRM hSTP hxl hrl HOB
            have HBAD := Mx.hid hBAD
            have HFRM := Mx.hid hFRM
            have HSTP := Mx.hid hSTP
            clear hBAD hFRM hSTP hlt hP
            have HFIN := Mx.hid (fun (A : Int) (y : Value) (w9 : World) (hXA : (A, pre, pl) = X) (h : St w0 w9 [prd g vb y (.func (.func fb) #[] caps) vo vw A, orow vo pre.length us, wrow vw pre.length (rws pre pl)] (rds us (pre.map Prod.fst))) => (show AllPost w0 g vb (.func (.func fb) #[] caps) X (.returned (.tuple #[])) w9 by
              subst hXA
              exact ⟨rfl, y, vo, vw, us, by rw [HP3.out, HP1.out], by rw [HP2.out, HP1.out], hi5, h⟩))
            generalize hLL : l.length = L at *
            go_wp2_with (first | ((with_reducible show wpList _ _ _ _ _ _); refine wpl_want rfl ?_))
            refine wp_region_C (fun W' => St w0 W' [prd g vb (.slice ro L rc) (.func (.func fb) #[] caps) vo vw 0, orow vo pre.length us, wrow vw pre.length (rws pre pl)] (rds us (pre.map Prod.fst))) (by kernel_rfl) (by kernel_rfl) (by exact hs.drew) ?_
            repeat ((first | (refine cq_y0 (v := ?_) (by with_reducible rfl) ?_ ?_; rotate_left 1; (focus (intro wq hq; (try dsimp only at hq); (have d0 : wq.cell? ⟨g, 0, none⟩ = some (.slice vbo body.length vbc) := (by rw [HVB.out]; exact hq.rcell (List.mem_cons_self ..) rfl); have d1 : wq.cell? ⟨g, 1, none⟩ = some (.slice ro L rc) := hq.rcell (List.mem_cons_self ..) rfl); go_simp; (first | done | with_reducible rfl | fail)))) | (refine cq_no (by go_simp; first | done | (intro h9; cases h9)) ?_) | (refine cq_yes (v := ?_) (by go_simp) ?_ ?_; rotate_left 1; (focus (intro wq hq; (try dsimp only at hq); (have d0 : wq.cell? ⟨g, 0, none⟩ = some (.slice vbo body.length vbc) := (by rw [HVB.out]; exact hq.rcell (List.mem_cons_self ..) rfl); have d1 : wq.cell? ⟨g, 1, none⟩ = some (.slice ro L rc) := hq.rcell (List.mem_cons_self ..) rfl); go_simp; (first | done | with_reducible rfl | fail))))); (try simp only [Act.put, List.setIfInBounds_toArray, List.set_cons_zero, List.set_cons_succ]))
            refine cq_nil ?_
            intro wq hq
            (try dsimp only at hq)
            clear hs c0 c1 c5
            go_wp2_with fail
            refine (HOB.out _ hq).mono ?_
            unfold ObPost
            rintro e w3 ⟨vx, dd, y3, rfl, hcase⟩
            simp only at hcase
            clear hq HOB
            rcases hcase with ⟨hA, hs3⟩ | ⟨hA, rfl, hy3, hs3⟩
            · have c5 : w3.cell? ⟨g, 5, none⟩ = some (.int .i64 er) := hs3.rcell (List.mem_cons_self ..) rfl
              have he' : (er != 0) = true := by simpa using hA
              have HE := Mx.hid (HBAD.out hA)
              clear hA
              go_wp2_with fail
              go_end0
              exact HFIN.out _ _ _ HE.out hs3
            · subst hA
              have c5 : w3.cell? ⟨g, 5, none⟩ = some (.int .i64 0) := hs3.rcell (List.mem_cons_of_mem _ (List.mem_cons_self ..)) rfl
              have HFR := Mx.hid (fun h => HFRM.out rfl h)
              have HST := Mx.hid (fun h => HSTP.out rfl h)
              have HY3 := Mx.hid hy3
              obtain ⟨xo, xc, rfl, _⟩ := id hs3.sl0
              have hs4 := hs3.freeze
              dsimp only at hs4
              have hD := decode_any _ X1 w3 hs4.q0 (by omega)
              unfold DecPost at hD
              have HD := Mx.hid hD
              clear HBAD HFRM HSTP hy3 hs3 hD
              go_wp2_with fail
              refine HD.out.mono ?_
              rintro e w4 ⟨dv, iv, pv, rfl, h3⟩
              generalize (decO X1).1 = o at *
              generalize (decO X1).2 = e2 at *
              clear HD
              obtain ⟨kq, dq, iq, tq, pq, sq, aq, mq⟩ := o
              obtain ⟨qd1, qd2, rfl, _⟩ := id (show Sl w4 1 dv dq.length (bs dq) from h3.sl0)
              obtain ⟨qi1, qi2, rfl, _⟩ := id (show Sl w4 3 iv iq.length (itms iq) from h3.sl1)
              obtain ⟨qp1, qp2, rfl, _⟩ := id (show Sl w4 1 pv pq.length (ss pq) from h3.sl2)
              simp only [OV, obR] at h3 ⊢
              by_cases h0 : e2 = 0
              · have HST2 := Mx.hid (HST.out h0)
                subst h0
                clear HFR HST
                go_wp2_with (first | (((with_reducible show wpList _ _ _ _ _ _); refine wpl_storeA rfl 72 _ _ rfl Tryz.aObj (h3.madeAt ([.int .i64 (0), .slice none 0 0, .slice none 0 0, .string (str []), .slice none 0 0, .int .i64 (0), .int .i64 (0), .string (str [])]).toArray 72 8 1 _ rfl (by simp [maxLen]) rfl) (0) rfl ([.int .i64 kq, .slice qd1 dq.length qd2, .slice qi1 iq.length qi2, .string tq, .slice qp1 pq.length qp2, .int .i64 sq, .int .i64 aq, .string mq]) rfl (by rfl) (by simp) (by intro u hu; simp at hu; rcases hu with rfl | rfl | rfl | rfl | rfl | rfl | rfl | rfl <;> rfl) ?_; intro w5 hs5); have hsA := hs4.call0 hs5.bare; have c3 : w5.cell? ⟨g, 3, none⟩ = some vo := hsA.rcell (List.mem_cons_self ..) rfl) | (at_builtin; refine wpl_app rfl _ _ 22 rfl Tryz.elBs (hsA.swap.alloc _) rfl (by exact Sl.one _ _ _) (by intro u hu; simp at hu; subst hu; rfl) (by omega) ?_; intro v6 w6 hs6 _; obtain ⟨oo, oc, rfl, _⟩ := id hs6.sl0) | ((with_reducible show wpList _ _ _ _ _ _); refine wpl_store1 rfl 22 _ _ rfl hs6.swap (3) rfl (.slice oo (pre.length + 1) oc) rfl rfl (by kernel_rfl) (by simp) rfl ?_; intro w7 hs7))
                have hs8 : St w0 w7 [prd g vb y3 (.func (.func fb) #[] caps) (.slice oo (pre.length + 1) oc) vw 0, orow (.slice oo (pre.length + 1) oc) (pre.length + 1) (us ++ [.slice xo X1.length xc]), wrow vw pre.length (rws pre pl)] (⟨.slice xo X1.length xc, 1, X1.length, bs X1⟩ :: rds us (pre.map Prod.fst)) := hs7
                have HS8 := Mx.hid hs8
                clear hs7 hs6 hsA hs5 h3 hs4 c3 c5
                (refine wp_region_S (12) (fun W' => W'.cell? ⟨g, 4, none⟩ = some vw) (by kernel_rfl) ?_ (fun hHeld => ?_); (focus ((try dsimp only); exact HS8.out.drew.rcell (List.mem_cons_self ..) rfl)))
                (refine wpAnyS_takeL (i := 0) (v := ?_) rfl (by kernel_rfl) (by kernel_rfl) (by kernel_rfl) (by kernel_rfl) (by kernel_rfl) (by kernel_rfl) (fun _ _ _ h => h) (Or.inl ⟨by rfl, ?_⟩) hHeld ?_; rotate_left 1; (focus (intro w' hSw; (try dsimp only at hSw); go_simp; (try with_reducible rfl))); (try simp only [Act.put, List.setIfInBounds_toArray, List.set_cons_zero, List.set_cons_succ]))
                (refine wpAnyS_takeL (i := 1) (v := ?_) rfl (by kernel_rfl) (by kernel_rfl) (by kernel_rfl) (by kernel_rfl) (by kernel_rfl) (by kernel_rfl) (fun _ _ _ h => h) (Or.inl ⟨by rfl, ?_⟩) hHeld ?_; rotate_left 1; (focus (intro w' hSw; (try dsimp only at hSw); go_simp; (try with_reducible rfl))); (try simp only [Act.put, List.setIfInBounds_toArray, List.set_cons_zero, List.set_cons_succ]))
                (refine wpAnyS_takeL (i := 2) (v := ?_) rfl (by kernel_rfl) (by kernel_rfl) (by kernel_rfl) (by kernel_rfl) (by kernel_rfl) (by kernel_rfl) (fun _ _ _ h => h) (Or.inl ⟨by rfl, ?_⟩) hHeld ?_; rotate_left 1; (focus (intro w' hSw; (try dsimp only at hSw); go_simp; (try with_reducible rfl))); (try simp only [Act.put, List.setIfInBounds_toArray, List.set_cons_zero, List.set_cons_succ]))
                (refine wpAnyS_takeL (i := 3) (v := ?_) rfl (by kernel_rfl) (by kernel_rfl) (by kernel_rfl) (by kernel_rfl) (by kernel_rfl) (by kernel_rfl) (fun _ _ _ h => h) (Or.inl ⟨by rfl, ?_⟩) hHeld ?_; rotate_left 1; (focus (intro w' hSw; (try dsimp only at hSw); go_simp; (try with_reducible rfl))); (try simp only [Act.put, List.setIfInBounds_toArray, List.set_cons_zero, List.set_cons_succ]))
                (refine wpAnyS_takeL (i := 4) (v := ?_) rfl (by kernel_rfl) (by kernel_rfl) (by kernel_rfl) (by kernel_rfl) (by kernel_rfl) (by kernel_rfl) (fun _ _ _ h => h) (Or.inl ⟨by rfl, ?_⟩) hHeld ?_; rotate_left 1; (focus (intro w' hSw; (try dsimp only at hSw); go_simp; (try with_reducible rfl))); (try simp only [Act.put, List.setIfInBounds_toArray, List.set_cons_zero, List.set_cons_succ]))
                (refine wpAnyS_takeL (i := 5) (v := ?_) rfl (by kernel_rfl) (by kernel_rfl) (by kernel_rfl) (by kernel_rfl) (by kernel_rfl) (by kernel_rfl) (fun _ _ _ h => h) (Or.inl ⟨by rfl, ?_⟩) hHeld ?_; rotate_left 1; (focus (intro w' hSw; (try dsimp only at hSw); go_simp; (try with_reducible rfl))); (try simp only [Act.put, List.setIfInBounds_toArray, List.set_cons_zero, List.set_cons_succ]))
                (refine wpAnyS_takeL (i := 7) (v := ?_) rfl (by kernel_rfl) (by kernel_rfl) (by kernel_rfl) (by kernel_rfl) (by kernel_rfl) (by kernel_rfl) (fun _ _ _ h => h) (Or.inl ⟨by rfl, ?_⟩) hHeld ?_; rotate_left 1; (focus (intro w' hSw; (try dsimp only at hSw); go_simp; (try with_reducible rfl))); (try simp only [Act.put, List.setIfInBounds_toArray, List.set_cons_zero, List.set_cons_succ]))
                (refine wpAnyS_takeL (i := 8) (v := ?_) rfl (by kernel_rfl) (by kernel_rfl) (by kernel_rfl) (by kernel_rfl) (by kernel_rfl) (by kernel_rfl) (fun _ _ _ h => h) (Or.inl ⟨by rfl, ?_⟩) hHeld ?_; rotate_left 1; (focus (intro w' hSw; (try dsimp only at hSw); go_simp; (try with_reducible rfl))); (try simp only [Act.put, List.setIfInBounds_toArray, List.set_cons_zero, List.set_cons_succ]))
                (refine wpAnyS_ready (rs := [6]) (by kernel_rfl) (by simp) ?_; refine AllS.consL rfl (fun K hK => ?_) AllS.nil)
                (go_simp; go_at_call 69; refine (id_any _ X1 _ (HS8.out.drew.q0) (by omega) (fun w' h => hL.keep (HS8.out.drew.call0 h))).mono ?_; rintro e w' ⟨rfl, hk⟩; go_wp2_with fail)
                have hs10 := HS8.out.drew.call0 hk
                (refine hK.out _ _ ?_ (fun hHeld => ?_); (focus ((try dsimp only); exact hs10.rcell (List.mem_cons_self ..) rfl)); clear hK K; (try simp only [Act.put, List.setIfInBounds_toArray, List.set_cons_zero, List.set_cons_succ]))
                (refine wpAnyS_takeL (i := 9) (v := ?_) rfl (by kernel_rfl) (by kernel_rfl) (by kernel_rfl) (by kernel_rfl) (by kernel_rfl) (by kernel_rfl) (fun _ _ _ h => h) (Or.inl ⟨by rfl, ?_⟩) hHeld ?_; rotate_left 1; (focus (intro w' hSw; (try dsimp only at hSw); go_simp; (try with_reducible rfl))); (try simp only [Act.put, List.setIfInBounds_toArray, List.set_cons_zero, List.set_cons_succ]))
                (refine wpAnyS_ready (rs := [10]) (by kernel_rfl) (by simp) ?_; refine AllS.consL rfl (fun K hK => ?_) AllS.nil)
                go_simp
                (refine hK.out _ _ ?_ (fun hHeld => ?_); (focus ((try dsimp only); exact (hs10.alloc _).rcell (List.mem_cons_self ..) rfl)); clear hK K; (try simp only [Act.put, List.setIfInBounds_toArray, List.set_cons_zero, List.set_cons_succ]))
                (refine wpAnyS_ready (rs := [11]) (by kernel_rfl) (by simp) ?_; refine AllS.consL rfl (fun K hK => ?_) AllS.nil)
                have hs11 := hs10.perm (List.perm_append_comm (l₁ := [_, _]) (l₂ := [_]))
                refine step_app rfl _ _ 42 rfl Tryz.elRow (by exact hs11.alloc _) rfl (by exact ((St.refl _).made #[.string (str (hexL (sha X1))), .int .i64 (P : Int), .int .i64 (dp : Int)] 49 3 1 rfl (by simp [maxLen])).sl0) (by intro u hu; simp at hu; rcases hu with rfl | rfl | rfl <;> rfl) (by omega) ?_
                intro v9 w9 hs12 _
                obtain ⟨wo, wc, rfl, _⟩ := id hs12.sl0
                (refine hK.out _ _ ?_ (fun hHeld => ?_); (focus ((try dsimp only); exact hs12.swap.rcell (List.mem_cons_self ..) rfl)); clear hK K; (try simp only [Act.put, List.setIfInBounds_toArray, List.set_cons_zero, List.set_cons_succ]))
                (refine wpAnyS_seq (by rfl) (by kernel_rfl) ?_; simp only [List.drop_succ_cons, List.drop_zero])
                go_wp2_with ((with_reducible show wpList _ _ _ _ _ _); refine wpl_store1 rfl 42 _ _ rfl hs12.swap (4) rfl (.slice wo (pre.length + 1) wc) rfl rfl (by kernel_rfl) (by simp) rfl ?_; intro wA hsA)
                have hsB : St w0 wA [prd g vb y3 (.func (.func fb) #[] caps) (.slice oo (pre.length + 1) oc) (.slice wo (pre.length + 1) wc) 0, wrow (.slice wo (pre.length + 1) wc) (pre.length + 1) (rws pre pl ++ rwc X1 P dp), orow (.slice oo (pre.length + 1) oc) (pre.length + 1) (us ++ [.slice xo X1.length xc])] (⟨.slice xo X1.length xc, 1, X1.length, bs X1⟩ :: rds us (pre.map Prod.fst)) := hsA
                have hlen : (pre ++ [(X1, dp)]).length = pre.length + 1 := by simp
                have hsC : St w0 wA [prd g vb y3 (.func (.func fb) #[] caps) (.slice oo (pre.length + 1) oc) (.slice wo (pre.length + 1) wc) 0, orow (.slice oo (pre.length + 1) oc) (pre ++ [(X1, dp)]).length (us ++ [.slice xo X1.length xc]), wrow (.slice wo (pre.length + 1) wc) (pre ++ [(X1, dp)]).length (rws (pre ++ [(X1, dp)]) (pl ++ [P]))] (rds (us ++ [.slice xo X1.length xc]) ((pre ++ [(X1, dp)]).map Prod.fst)) := by
                  rw [rws_snoc _ _ _ _ _ (by rw [HP2.out, HP1.out]), hlen, List.map_append, List.map_cons, List.map_nil, rds_snoc _ _ _ _ (by rw [List.length_map, HP3.out, HP1.out])]
                  exact (hsB.perm (List.Perm.cons _ (List.Perm.swap _ _ _))).sub (List.Sublist.refl _) (fun q hq => by
                    rcases List.mem_append.1 hq with h | h
                    · exact List.mem_cons_of_mem _ h
                    · rw [List.mem_singleton.1 h]; exact List.mem_cons_self ..)
                case roundEnd =>
                  exact ⟨⟨i + 1, pre ++ [(X1, dp)], pl ++ [P], us ++ [.slice xo X1.length xc], y3, _, _, l2, by go_num, by omega, Mx.hid (by rw [hlen, HP1.out]), Mx.hid (by rw [List.length_append, HP2.out]; rfl), Mx.hid (by rw [List.length_append, HP3.out]; rfl), Mx.hid (fun p hp => by
                    rcases List.mem_append.1 hp with h | h
                    · exact HPZ.out p h
                    · rw [List.mem_singleton.1 h]; exact hxl), Mx.hid HST2.out, HY3, by omega, hsC⟩, by simp [intOf]; omega⟩
              · have HE := Mx.hid (HFR.out h0)
                have he' : (e2 != 0) = true := by simpa using h0
                clear HFR HST h0
                have HFF := Mx.hid (fun (wx : World) (h : St w3 wx [] []) => pfail_any w0 wx _ _ g vb y3 (.func (.func fb) #[] caps) vo vw 0 4 (hs4.call0 h).tailQ)
                rw [if_pos rfl] at HFF
                go_wp2_with (first | (((with_reducible show wpList _ _ _ _ _ _); refine wpl_storeA rfl 72 _ _ rfl Tryz.aObj (h3.madeAt ([.int .i64 (0), .slice none 0 0, .slice none 0 0, .string (str []), .slice none 0 0, .int .i64 (0), .int .i64 (0), .string (str [])]).toArray 72 8 1 _ rfl (by simp [maxLen]) rfl) (0) rfl ([.int .i64 kq, .slice qd1 dq.length qd2, .slice qi1 iq.length qi2, .string tq, .slice qp1 pq.length qp2, .int .i64 sq, .int .i64 aq, .string mq]) rfl (by rfl) (by simp) (by intro u hu; simp at hu; rcases hu with rfl | rfl | rfl | rfl | rfl | rfl | rfl | rfl <;> rfl) ?_; intro w5 hs5)) | (go_at_call 66; refine (HFF.out _ hs5.bare).mono ?_; rintro e w6 ⟨rfl, hs6⟩))
                go_end0
                exact HFIN.out _ _ _ HE.out hs6
          · obtain rfl : i = M := by omega
            rw [Nat.sub_self] at HX
            have hX := HX.out
            rw [rdAll] at hX
            have d2 : decide (i < i) = false := decide_eq_false (by omega)
            have hi5 : pre.length ≤ 512 := by rw [HP1.out]; omega
            have HFIN := Mx.hid (fun (A : Int) (y : Value) (w9 : World) (hXA : (A, pre, pl) = X) (h : St w0 w9 [prd g vb y (.func (.func fb) #[] caps) vo vw A, orow vo pre.length us, wrow vw pre.length (rws pre pl)] (rds us (pre.map Prod.fst))) => (show AllPost w0 g vb (.func (.func fb) #[] caps) X (.returned (.tuple #[])) w9 by
              subst hXA
              exact ⟨rfl, y, vo, vw, us, by rw [HP3.out, HP1.out], by rw [HP2.out, HP1.out], hi5, h⟩))
            have hf := pfail_any w0 wr _ _ g vb (.slice ro l.length rc) (.func (.func fb) #[] caps) vo vw 0 3 hs
            rw [if_pos rfl] at hf
            have HFF := Mx.hid hf
            clear hf
            by_cases hz0 : l = []
            · rw [if_pos hz0] at hX
              have HXX := Mx.hid hX
              have f2 : decide (0 < l.length) = false := by rw [hz0]; rfl
              have f3 : l.length = 0 := by rw [hz0]; rfl
              clear hX hz0
              generalize l.length = L at *
              subst f3
              go_wp2_with (first | ((with_reducible show wpList _ _ _ _ _ _); refine wpl_want rfl ?_))
              go_end0
              exact HFIN.out _ _ _ HXX.out hs
            · rw [if_neg hz0] at hX
              have HXX := Mx.hid hX
              have f3 : 0 < l.length := List.length_pos_iff.2 hz0
              have f2 : decide (0 < l.length) = true := decide_eq_true f3
              clear hX hz0
              generalize l.length = L at *
              go_wp2_with (first | ((with_reducible show wpList _ _ _ _ _ _); refine wpl_want rfl ?_) | (go_at_call 66; refine HFF.out.mono ?_; rintro e w6 ⟨rfl, hs6⟩))
              go_end0
              exact HFIN.out _ _ _ HXX.out hs6
    · have hA := hE
      rw [if_pos hE] at hX
      have HP := Mx.hid (fun (y : Value) (w9 : World) h => HNIL.out E y w9 hX.symm h)
      have hM := hbad hE
      subst hM
      have he' : (E == 0) = false := by simpa using hE
      clear hbad hgood hX hE
      generalize l0.length = L at *
      go_wp2_with fail
      go_loopw [3] (fun q wr => q = .int .i64 0 ∧ w2 = wr) (fun _ _ => 0)
      case atStart => exact ⟨rfl, rfl⟩
      case round =>
        obtain ⟨rfl, rfl⟩ := hrel
        have c1 : w2.cell? ⟨g, 1, none⟩ = some (.slice yo L yc) := hs2.rcell (List.mem_cons_self ..) rfl
        have c5 : w2.cell? ⟨g, 5, none⟩ = some (.int .i64 E) := hs2.rcell (List.mem_cons_self ..) rfl
        by_cases hz0 : 0 < L
        · have f1 : decide ((0 : Int) < (L : Int)) = true := decide_eq_true (by omega)
          have f2 : decide (0 < L) = true := decide_eq_true hz0
          have hfz := pfail_any w0 w2 _ _ g vb (.slice yo L yc) base _ _ E 3 hs2
          rw [if_neg hA] at hfz
          have HFZ := Mx.hid hfz
          clear hfz hz0
          go_wp2_with (first | ((with_reducible show wpList _ _ _ _ _ _); refine wpl_want rfl ?_) | (go_at_call 66; refine HFZ.out.mono ?_; rintro e w9 ⟨rfl, hs9⟩))
          go_end0
          exact HP.out _ _ hs9
        · have f1 : decide ((0 : Int) < (L : Int)) = false := decide_eq_false (by omega)
          have f2 : decide (0 < L) = false := decide_eq_false hz0
          clear hz0
          go_wp2_with (first | ((with_reducible show wpList _ _ _ _ _ _); refine wpl_want rfl ?_))
          go_end0
          exact HP.out _ _ hs2
  · rw [if_pos hmag] at hX
    rw [decide_eq_false hmag] at ht
    have HP := Mx.hid (fun (y : Value) (w9 : World) h => HNIL.out 4 y w9 hX.symm h)
    have hA : (4 : Int) ≠ 0 := by simp
    have hf := pfail_any w0 w1 _ _ g vb y1 base _ _ 0 4 hs
    rw [if_pos rfl] at hf
    have HFF := Mx.hid hf
    obtain ⟨yo, yc, rfl, _⟩ := id HY1.out
    clear hf hX hmag hs
    generalize (body.drop 3).length = L at *
    go_wp2_with (first | ((with_reducible show wpList _ _ _ _ _ _); refine wpl_b2s rfl 25 9 5 _ rfl Tryz.underlying25 Tryz.underlying5 Tryz.underlying9 (by exact hx1') ?_) | (go_at_call 66; refine HFF.out.mono ?_; rintro e w2 ⟨rfl, hs⟩) | (go_at_call 67; refine (pnumber_stop w2 g 4 (hs.rcell (List.mem_cons_self ..) rfl) hA).mono ?_; rintro e w3 ⟨rfl, hk3⟩; replace hs := hs.call0 hk3))
    go_loopw [3] (fun q wr => q = .int .i64 0 ∧ w3 = wr) (fun _ _ => 0)
    case atStart => exact ⟨rfl, rfl⟩
    case round =>
      obtain ⟨rfl, rfl⟩ := hrel
      have c1 : w3.cell? ⟨g, 1, none⟩ = some (.slice yo L yc) := hs.rcell (List.mem_cons_self ..) rfl
      have c5 : w3.cell? ⟨g, 5, none⟩ = some (.int .i64 4) := hs.rcell (List.mem_cons_self ..) rfl
      by_cases hz0 : 0 < L
      · have f1 : decide ((0 : Int) < (L : Int)) = true := decide_eq_true (by omega)
        have f2 : decide (0 < L) = true := decide_eq_true hz0
        have hfz := pfail_any w0 w3 _ _ g vb (.slice yo L yc) base _ _ 4 3 hs
        rw [if_neg hA] at hfz
        have HFZ := Mx.hid hfz
        clear hfz hz0
        go_wp2_with (first | ((with_reducible show wpList _ _ _ _ _ _); refine wpl_want rfl ?_) | (go_at_call 66; refine HFZ.out.mono ?_; rintro e w9 ⟨rfl, hs9⟩))
        go_end0
        exact HP.out _ _ hs9
      · have f1 : decide ((0 : Int) < (L : Int)) = false := decide_eq_false (by omega)
        have f2 : decide (0 < L) = false := decide_eq_false hz0
        clear hz0
        go_wp2_with (first | ((with_reducible show wpList _ _ _ _ _ _); refine wpl_want rfl ?_))
        go_end0
        exact HP.out _ _ hs
end Go.Proofs.YtlfdnlomlbbicaaGreatDoor

namespace Go.Proofs.YtlfdnlomlbbicaaGreatDoor
open Go.RowKit Go.Mx
def PkrPost (w0 : World) (base : Value) (X : Int × List (List UInt8 × Nat) × List Nat) (e : Ending) (w' : World) : Prop :=
  ∃ g vb vr vo vw us, e = .returned (.pointer (some ⟨g, 0, none⟩)) ∧ us.length = X.2.1.length ∧ X.2.2.length = X.2.1.length ∧ X.2.1.length ≤ 512 ∧
    St w0 w' [prd g vb vr base vo vw X.1, orow vo X.2.1.length us, wrow vw X.2.1.length (rws X.2.1 X.2.2)] (rds us (X.2.1.map Prod.fst))
theorem PkrPost.nil {w0 w' : World} {g : Nat} {vb vr base : Value} {X : Int × List (List UInt8 × Nat) × List Nat} (A : Int) (hX : X = (A, [], [])) (h : St w0 w' [prd g vb vr base (.slice none 0 0) (.slice none 0 0) A] []) : PkrPost w0 base X (.returned (.pointer (some ⟨g, 0, none⟩))) w' := by
  subst hX
  exact ⟨g, vb, vr, .slice none 0 0, .slice none 0 0, [], rfl, rfl, rfl, by simp, ((h.addNil 25 1).addNil 49 3).perm (List.reverse_perm [_, _, _]).symm⟩
set_option maxRecDepth 100000 in
set_option maxHeartbeats 4000000 in
theorem pread_any (w : World) (v : Value) (b : List UInt8) (fb : FuncId) (caps : Array Value) (f : ByteArray → Option (List UInt8)) (hv : Sl w 1 v b.length (bs b)) (hb : b.length ≤ 140737488351232)
    (hB : BaseOk fb caps f w) (hbz : ∀ id x, f id = some x → x.length ≤ 1000000000) (hL : Laid w) :
    Calls Tryz.prog 27 #[v, .func (.func fb) #[] caps] w (PkrPost w (.func (.func fb) #[] caps) (rdPack f b)) := by
  obtain ⟨X, hX⟩ : ∃ X, rdPack f b = X := ⟨_, rfl⟩
  rw [hX]
  unfold rdPack at hX
  have HV := Mx.hid hv
  have HB := Mx.hid hB
  have HBZ := Mx.hid hbz
  obtain ⟨bo, bc, rfl, _⟩ := id hv
  have HALL := Mx.hid (fun (wx : World) (g : Nat) (y : Value) (body : List UInt8) hs hl hn h4 => pall_any w wx g y fb caps f body hs hl hn h4 hB hbz hL)
  by_cases hsh : b.length < 36
  · rw [if_pos hsh] at hX
    have d1 : decide ((b.length : Int) < 36) = true := decide_eq_true (by omega)
    have HX := Mx.hid hX.symm
    clear hv hB hbz hX hsh
    go_enter Tryz.func27, Tryz.ntmps27
    go_wp2_with (first | (((with_reducible show wpList _ _ _ _ _ _); refine wpl_box rfl 66 _ rfl (St.refl w) ([.slice none 0 0, .slice none 0 0, .func (.func fb) #[] caps, .slice none 0 0, .slice none 0 0, .int .i64 0]) (by rfl) ?_; intro gx wx hsx)) | ((with_reducible show wpList _ _ _ _ _ _); refine wpl_store1 rfl 27 _ _ rfl hsx (5) rfl (.int .i64 2) rfl rfl (by kernel_rfl) (by simp) rfl ?_; intro w2 hs2))
    go_ret
    exact PkrPost.nil 2 HX.out hs2
  · rw [if_neg hsh] at hX
    have d1 : decide ((b.length : Int) < 36) = false := decide_eq_false (by omega)
    obtain ⟨n, hn⟩ : ∃ n, b.length - 32 = n := ⟨_, rfl⟩
    rw [hn] at hX
    have hnI : (b.length : Int) - 32 = (n : Int) := by omega
    have hnl : n ≤ b.length := by omega
    have hn4 : 4 ≤ n := by omega
    obtain ⟨x, p1, q1⟩ := hv.cutRun Tryz.elU8 none (some (.int .i64 (n : Int))) 0 n (.inl ⟨rfl, rfl⟩) (.inr ⟨.i64, rfl⟩) (Nat.zero_le _) hnl
    obtain ⟨y, p2, q2⟩ := hv.cutRun Tryz.elU8 (some (.int .i64 (n : Int))) none n b.length (.inr ⟨.i64, rfl⟩) (.inl ⟨rfl, rfl⟩) hnl (Nat.le_refl _)
    have hx := Sl.cutB (q1 _ hv) hnl (Nat.zero_le _)
    have hy := Sl.cutB (q2 _ hv) (Nat.le_refl _) hnl
    rw [List.take_length] at hy
    rw [List.drop_zero] at hx
    have htl : (b.take n).length = n := by rw [List.length_take]; omega
    obtain ⟨xo, xc, rfl, _⟩ := id hx
    obtain ⟨yo, yc, rfl, _⟩ := id hy
    have HX2 := Mx.hid hx
    have HY2 := Mx.hid hy
    have hd32 : (b.drop n).length = 32 := by rw [List.length_drop]; omega
    generalize hbody : b.take n = body at *
    generalize b.drop n = tl at *
    rw [htl] at p1
    rw [hd32] at p2
    have HEQ := Mx.hid (show (Value.slice xo body.length xc) = .slice xo n xc ∧ (Value.slice yo tl.length yc) = .slice yo 32 yc by rw [htl, hd32]; exact ⟨rfl, rfl⟩)
    rw [HEQ.out.1] at HX2
    rw [HEQ.out.2] at HY2
    have hbl : body.length ≤ 140737488351232 := by omega
    have HSL := sha_len body
    clear hv hB hbz hsh q1 q2 hx hy hn hd32
    go_enter Tryz.func27, Tryz.ntmps27
    go_wp2_with (first | (((with_reducible show wpList _ _ _ _ _ _); refine wpl_box rfl 66 _ rfl (St.refl w) ([.slice none 0 0, .slice none 0 0, .func (.func fb) #[] caps, .slice none 0 0, .slice none 0 0, .int .i64 0]) (by rfl) ?_; intro gx wx hsx)) | (((with_reducible show wpList _ _ _ _ _ _); refine wpl_store1 rfl 25 _ _ rfl hsx (0) rfl (.slice xo n xc) rfl rfl (by kernel_rfl) (by simp) rfl ?_; intro w2 hs2); have c0 : w2.cell? ⟨gx, 0, none⟩ = some (.slice xo n xc) := hs2.rcell (List.mem_cons_self ..) rfl) | ((with_reducible show wpList _ _ _ _ _ _); refine wpl_store1 rfl 25 _ _ rfl hs2 (1) rfl (.slice xo n xc) rfl rfl (by kernel_rfl) (by simp) rfl ?_; intro w3 hs3))
    have hs4 : St w w3 [prd gx (.slice xo n xc) (.slice xo n xc) (.func (.func fb) #[] caps) (.slice none 0 0) (.slice none 0 0) 0] [] := hs3
    have HS4 := Mx.hid hs4
    clear hs3 hs2 hsx c0 hs4
    (refine wp_region_S (13) (fun W' => W'.cell? ⟨gx, 0, none⟩ = some (.slice xo n xc)) (by kernel_rfl) ?_ (fun hHeld => ?_); (focus ((try dsimp only); exact HS4.out.drew.rcell (List.mem_cons_self ..) rfl)))
    (refine wpAnyS_takeW (i := 0) (v := ?_) rfl (by kernel_rfl) (by kernel_rfl) (by kernel_rfl) (by kernel_rfl) (fun _ _ _ h => h) (Or.inl ⟨by first | rfl | (go_simp; done), ?_⟩) hHeld ?_; rotate_left 1; (focus (intro w' hSw; go_simp; (try with_reducible rfl))); (try simp only [Act.put, List.setIfInBounds_toArray, List.set_cons_zero, List.set_cons_succ]))
    (refine wpAnyS_takeW (i := 1) (v := ?_) rfl (by kernel_rfl) (by kernel_rfl) (by kernel_rfl) (by kernel_rfl) (fun _ _ _ h => h) (Or.inl ⟨by first | rfl | (go_simp; done), ?_⟩) hHeld ?_; rotate_left 1; (focus (intro w' hSw; go_simp; (try with_reducible rfl))); (try simp only [Act.put, List.setIfInBounds_toArray, List.set_cons_zero, List.set_cons_succ]))
    (refine wpAnyS_takeW (i := 2) (v := ?_) rfl (by kernel_rfl) (by kernel_rfl) (by kernel_rfl) (by kernel_rfl) (fun _ _ _ h => h) (Or.inl ⟨by first | rfl | (go_simp; done), ?_⟩) hHeld ?_; rotate_left 1; (focus (intro w' hSw; go_simp; (try with_reducible rfl))); (try simp only [Act.put, List.setIfInBounds_toArray, List.set_cons_zero, List.set_cons_succ]))
    (refine wpAnyS_takeD (i := 3) (v := ?_) rfl (by kernel_rfl) (by kernel_rfl) (by kernel_rfl) (by kernel_rfl) (by kernel_rfl) (fun _ _ _ h => h) (Or.inl ⟨by first | rfl | (go_simp; done), ?_⟩) hHeld ?_; rotate_left 1; (focus (intro w' hSw; (try dsimp only at hSw); go_simp; (try with_reducible rfl))); (try simp only [Act.put, List.setIfInBounds_toArray, List.set_cons_zero, List.set_cons_succ]))
    (refine wpAnyS_takeW (i := 5) (v := ?_) rfl (by kernel_rfl) (by kernel_rfl) (by kernel_rfl) (by kernel_rfl) (fun _ _ _ h => h) (Or.inl ⟨by first | rfl | (go_simp; done), ?_⟩) hHeld ?_; rotate_left 1; (focus (intro w' hSw; go_simp; (try with_reducible rfl))); (try simp only [Act.put, List.setIfInBounds_toArray, List.set_cons_zero, List.set_cons_succ]))
    (refine wpAnyS_takeW (i := 6) (v := ?_) rfl (by kernel_rfl) (by kernel_rfl) (by kernel_rfl) (by kernel_rfl) (fun _ _ _ h => h) (Or.inl ⟨by first | rfl | (go_simp; done), ?_⟩) hHeld ?_; rotate_left 1; (focus (intro w' hSw; go_simp; (try with_reducible rfl))); (try simp only [Act.put, List.setIfInBounds_toArray, List.set_cons_zero, List.set_cons_succ]))
    (refine wpAnyS_takeW (i := 7) (v := ?_) rfl (by kernel_rfl) (by kernel_rfl) (by kernel_rfl) (by kernel_rfl) (fun _ _ _ h => h) (Or.inl ⟨by first | rfl | (go_simp; done), ?_⟩) hHeld ?_; rotate_left 1; (focus (intro w' hSw; go_simp; (try with_reducible rfl))); (try simp only [Act.put, List.setIfInBounds_toArray, List.set_cons_zero, List.set_cons_succ]))
    (refine wpAnyS_takeW (i := 8) (v := ?_) rfl (by kernel_rfl) (by kernel_rfl) (by kernel_rfl) (by kernel_rfl) (fun _ _ _ h => h) (Or.inl ⟨by first | rfl | (go_simp; done), ?_⟩) hHeld ?_; rotate_left 1; (focus (intro w' hSw; go_simp; (try with_reducible rfl))); (try simp only [Act.put, List.setIfInBounds_toArray, List.set_cons_zero, List.set_cons_succ]))
    (refine wpAnyS_takeD (i := 9) (v := ?_) rfl (by kernel_rfl) (by kernel_rfl) (by kernel_rfl) (by kernel_rfl) (by kernel_rfl) (fun _ _ _ h => h) (Or.inl ⟨by first | rfl | (go_simp; done), ?_⟩) hHeld ?_; rotate_left 1; (focus (intro w' hSw; (try dsimp only at hSw); go_simp; (try with_reducible rfl))); (try simp only [Act.put, List.setIfInBounds_toArray, List.set_cons_zero, List.set_cons_succ]))
    (refine wpAnyS_takeW (i := 10) (v := ?_) rfl (by kernel_rfl) (by kernel_rfl) (by kernel_rfl) (by kernel_rfl) (fun _ _ _ h => h) (Or.inl ⟨by first | rfl | (go_simp; done), ?_⟩) hHeld ?_; rotate_left 1; (focus (intro w' hSw; go_simp; (try with_reducible rfl))); (try simp only [Act.put, List.setIfInBounds_toArray, List.set_cons_zero, List.set_cons_succ]))
    (refine wpAnyS_takeW (i := 11) (v := ?_) rfl (by kernel_rfl) (by kernel_rfl) (by kernel_rfl) (by kernel_rfl) (fun _ _ _ h => h) (Or.inl ⟨by first | rfl | (go_simp; done), ?_⟩) hHeld ?_; rotate_left 1; (focus (intro w' hSw; go_simp; (try with_reducible rfl))); (try simp only [Act.put, List.setIfInBounds_toArray, List.set_cons_zero, List.set_cons_succ]))
    (refine wpAnyS_ready (rs := [4]) (by kernel_rfl) (by simp) ?_; refine AllS.consL rfl (fun K hK => ?_) AllS.nil)
    (go_simp; go_at_call 22; refine (sum_any _ _ body (HS4.out.drew.old HX2.out) hbl (fun w' h => hL.keep (HS4.out.drew.call0 h))).mono ?_; rintro e w' ⟨sv, rfl, hk⟩; go_wp2_with fail)
    have hs5 := HS4.out.drew.call0 hk.bare
    have hsum : Sl w' 1 sv (sha body).length (bs (sha body)) := by rw [HSL]; exact hk.sl0
    have HSUM := Mx.hid hsum
    (refine hK.out _ _ ?_ (fun hHeld => ?_); (focus ((try dsimp only); exact hs5.rcell (List.mem_cons_self ..) rfl)); clear hK K; (try simp only [Act.put, List.setIfInBounds_toArray, List.set_cons_zero, List.set_cons_succ]))
    (refine wpAnyS_ready (rs := [12]) (by kernel_rfl) (by simp) ?_; refine AllS.consL rfl (fun K hK => ?_) AllS.nil)
    (go_simp; go_at_call 48; refine (bequal_any _ _ (sha body) tl _ HSUM.out (hs5.old HY2.out)).mono ?_; rintro e w' ⟨rfl, rfl⟩; go_wp2_with fail)
    (refine hK.out _ _ ?_ (fun hHeld => ?_); (focus ((try dsimp only); exact hs5.rcell (List.mem_cons_self ..) rfl)); clear hK K; (try simp only [Act.put, List.setIfInBounds_toArray, List.set_cons_zero, List.set_cons_succ]))
    (refine wpAnyS_seq (by rfl) (by kernel_rfl) ?_; simp only [List.drop_succ_cons, List.drop_zero])
    rename_i we
    clear hk
    have HS5 := Mx.hid hs5
    by_cases heq : sha body = tl
    · rw [decide_eq_true heq]
      rw [if_neg (by simpa using heq)] at hX
      clear heq
      have HX := Mx.hid hX
      clear hX
      go_wp2_with fail
      refine (HALL.out _ gx (.slice xo n xc) body hs5 (by rw [htl]; rw [htl] at HX2; exact HX2.out) (by omega) (by omega)).mono ?_
      unfold AllPost
      rintro e w8 ⟨rfl, vr, vo, vw, us, h1, h2, h3, hs8⟩
      rw [HX.out] at *
      go_wp2_with fail
      go_ret
      exact ⟨gx, _, vr, vo, vw, us, rfl, h1, h2, h3, hs8⟩
    · rw [decide_eq_false heq]
      rw [if_pos heq] at hX
      have HX := Mx.hid hX.symm
      clear hX heq
      go_wp2_with (((with_reducible show wpList _ _ _ _ _ _); refine wpl_store1 rfl 27 _ _ rfl hs5 (5) rfl (.int .i64 5) rfl rfl (by kernel_rfl) (by simp) rfl ?_; intro w8 hs8))
      go_ret
      exact PkrPost.nil 5 HX.out hs8
end Go.Proofs.YtlfdnlomlbbicaaGreatDoor

namespace Go.Proofs.YtlfdnlomlbbicaaGreatDoor
open Go.RowKit Go.Mx
def ParsePost (w0 : World) (X : Int × List (List UInt8 × Nat) × List Nat) (e : Ending) (w' : World) : Prop :=
  ∃ v, e = .returned (.tuple #[v, .int .i64 (X.2.1.length : Int), .int .i64 X.1]) ∧ St w0 w' [] [] ∧ LL w' v (if X.1 = 0 then X.2.1.map Prod.fst else [])
def IndexPost (w0 : World) (X : Int × List (List UInt8 × Nat) × List Nat) (e : Ending) (w' : World) : Prop :=
  (X.1 = 0 ∧ X.2.2.length = X.2.1.length ∧ ∃ v, e = .returned (.tuple #[v, .int .i64 0]) ∧ St w0 w' [wrow v X.2.1.length (rws X.2.1 X.2.2)] []) ∨
  (X.1 ≠ 0 ∧ e = .returned (.tuple #[.slice none 0 0, .int .i64 X.1]) ∧ St w0 w' [] [])
set_option maxRecDepth 100000 in
theorem pparse_any (w : World) (v : Value) (b : List UInt8) (fb : FuncId) (caps : Array Value) (f : ByteArray → Option (List UInt8)) (hv : Sl w 1 v b.length (bs b)) (hb : b.length ≤ 140737488351232)
    (hB : BaseOk fb caps f w) (hbz : ∀ id x, f id = some x → x.length ≤ 1000000000) (hL : Laid w) :
    Calls Tryz.prog 12 #[v, .func (.func fb) #[] caps] w (ParsePost w (rdPack f b)) := by
  have HR := Mx.hid (pread_any w v b fb caps f hv hb hB hbz hL)
  clear hv hB hbz
  generalize rdPack f b = X at *
  obtain ⟨er, pre, pl⟩ := X
  go_enter Tryz.func12, Tryz.ntmps12
  go_wp2_with fail
  refine HR.out.mono ?_
  unfold PkrPost
  rintro e w1 ⟨g, vb, vr, vo, vw, us, rfl, h1, h2, h3, hs⟩
  simp only at h1 h2 h3 hs
  have HS := Mx.hid hs
  obtain ⟨oo, oc, rfl, _⟩ := id hs.sl1
  have c5 : w1.cell? ⟨g, 5, none⟩ = some (.int .i64 er) := hs.rcell (List.mem_cons_self ..) rfl
  have hll := hs.addNil 5 1
  have HUS := Mx.hid h1
  clear hll hs HR h1 h2
  by_cases hA : er = 0
  · have he' : (er != 0) = false := by simpa using hA
    have HA := Mx.hid hA
    clear hA
    go_wp2_with fail
    refine wp_region_C (fun W' => St w W' [prd g vb vr (.func (.func fb) #[] caps) (.slice oo pre.length oc) vw er, orow (.slice oo pre.length oc) pre.length us, wrow vw pre.length (rws pre pl)] (rds us (pre.map Prod.fst))) (by kernel_rfl) (by kernel_rfl) (by exact HS.out.drew) ?_
    repeat ((first | (refine cq_y0 (v := ?_) (by with_reducible rfl) ?_ ?_; rotate_left 1; (focus (intro wq hq; (try dsimp only at hq); (have d0 : wq.cell? ⟨g, 3, none⟩ = some (.slice oo pre.length oc) := hq.rcell (List.mem_cons_self ..) rfl; have d1 : wq.cell? ⟨g, 5, none⟩ = some (.int .i64 er) := hq.rcell (List.mem_cons_self ..) rfl); go_simp; (first | done | with_reducible rfl | fail)))) | (refine cq_no (by go_simp; first | done | (intro h9; cases h9)) ?_) | (refine cq_yes (v := ?_) (by go_simp) ?_ ?_; rotate_left 1; (focus (intro wq hq; (try dsimp only at hq); (have d0 : wq.cell? ⟨g, 3, none⟩ = some (.slice oo pre.length oc) := hq.rcell (List.mem_cons_self ..) rfl; have d1 : wq.cell? ⟨g, 5, none⟩ = some (.int .i64 er) := hq.rcell (List.mem_cons_self ..) rfl); go_simp; (first | done | with_reducible rfl | fail))))); (try simp only [Act.put, List.setIfInBounds_toArray, List.set_cons_zero, List.set_cons_succ]))
    refine cq_nil ?_
    intro wq hq
    (try dsimp only at hq)
    go_wp2_with fail
    go_ret3
    have hA := HA.out
    subst hA
    exact ⟨_, rfl, hq.bare, by
      rw [if_pos rfl]
      exact ⟨us, by rw [List.length_map, HUS.out], by rw [List.length_map]; exact hq.sl1, fun q hq' => hq.rd q hq'⟩⟩
  · have he' : (er != 0) = true := by simpa using hA
    have HA := Mx.hid hA
    clear hA
    go_wp2_with fail
    refine wp_region_C (fun W' => St w W' [prd g vb vr (.func (.func fb) #[] caps) (.slice oo pre.length oc) vw er, orow (.slice oo pre.length oc) pre.length us, wrow vw pre.length (rws pre pl)] (rds us (pre.map Prod.fst))) (by kernel_rfl) (by kernel_rfl) (by exact HS.out.drew) ?_
    repeat ((first | (refine cq_y0 (v := ?_) (by with_reducible rfl) ?_ ?_; rotate_left 1; (focus (intro wq hq; (try dsimp only at hq); (have d0 : wq.cell? ⟨g, 3, none⟩ = some (.slice oo pre.length oc) := hq.rcell (List.mem_cons_self ..) rfl; have d1 : wq.cell? ⟨g, 5, none⟩ = some (.int .i64 er) := hq.rcell (List.mem_cons_self ..) rfl); go_simp; (first | done | with_reducible rfl | fail)))) | (refine cq_no (by go_simp; first | done | (intro h9; cases h9)) ?_) | (refine cq_yes (v := ?_) (by go_simp) ?_ ?_; rotate_left 1; (focus (intro wq hq; (try dsimp only at hq); (have d0 : wq.cell? ⟨g, 3, none⟩ = some (.slice oo pre.length oc) := hq.rcell (List.mem_cons_self ..) rfl; have d1 : wq.cell? ⟨g, 5, none⟩ = some (.int .i64 er) := hq.rcell (List.mem_cons_self ..) rfl); go_simp; (first | done | with_reducible rfl | fail))))); (try simp only [Act.put, List.setIfInBounds_toArray, List.set_cons_zero, List.set_cons_succ]))
    refine cq_nil ?_
    intro wq hq
    (try dsimp only at hq)
    go_wp2_with fail
    go_ret3
    exact ⟨_, rfl, hq.bare, by rw [if_neg HA.out]; exact LL.nil _⟩
set_option maxRecDepth 100000 in
theorem pindex_any (w : World) (v : Value) (b : List UInt8) (fb : FuncId) (caps : Array Value) (f : ByteArray → Option (List UInt8)) (hv : Sl w 1 v b.length (bs b)) (hb : b.length ≤ 140737488351232)
    (hB : BaseOk fb caps f w) (hbz : ∀ id x, f id = some x → x.length ≤ 1000000000) (hL : Laid w) :
    Calls Tryz.prog 16 #[v, .func (.func fb) #[] caps] w (IndexPost w (rdPack f b)) := by
  have HR := Mx.hid (pread_any w v b fb caps f hv hb hB hbz hL)
  clear hv hB hbz
  generalize rdPack f b = X at *
  obtain ⟨er, pre, pl⟩ := X
  go_enter Tryz.func16, Tryz.ntmps16
  go_wp2_with fail
  refine HR.out.mono ?_
  unfold PkrPost
  rintro e w1 ⟨g, vb, vr, vo, vw, us, rfl, h1, h2, h3, hs⟩
  simp only at h1 h2 h3 hs
  have HS := Mx.hid hs
  have HPL := Mx.hid h2
  have c5 : w1.cell? ⟨g, 5, none⟩ = some (.int .i64 er) := hs.rcell (List.mem_cons_self ..) rfl
  have c4 : w1.cell? ⟨g, 4, none⟩ = some vw := hs.rcell (List.mem_cons_self ..) rfl
  clear hs HR h1 h2
  by_cases hA : er = 0
  · have he' : (er != 0) = false := by simpa using hA
    have HA := Mx.hid hA
    clear hA
    go_wp2_with fail
    go_ret2
    refine .inl ⟨HA.out, HPL.out, vw, rfl, ?_⟩
    exact (HS.out.perm (List.reverse_perm _).symm).sub (List.Sublist.cons_cons _ (List.nil_sublist _)) (by simp)
  · have he' : (er != 0) = true := by simpa using hA
    have HA := Mx.hid hA
    clear hA
    go_wp2_with fail
    refine wp_region_C (fun W' => St w W' [prd g vb vr (.func (.func fb) #[] caps) vo vw er, orow vo pre.length us, wrow vw pre.length (rws pre pl)] (rds us (pre.map Prod.fst))) (by kernel_rfl) (by kernel_rfl) (by exact HS.out.drew) ?_
    repeat ((first | (refine cq_y0 (v := ?_) (by with_reducible rfl) ?_ ?_; rotate_left 1; (focus (intro wq hq; (try dsimp only at hq); (have d1 : wq.cell? ⟨g, 5, none⟩ = some (.int .i64 er) := hq.rcell (List.mem_cons_self ..) rfl); go_simp; (first | done | with_reducible rfl | fail)))) | (refine cq_no (by go_simp; first | done | (intro h9; cases h9)) ?_) | (refine cq_yes (v := ?_) (by go_simp) ?_ ?_; rotate_left 1; (focus (intro wq hq; (try dsimp only at hq); (have d1 : wq.cell? ⟨g, 5, none⟩ = some (.int .i64 er) := hq.rcell (List.mem_cons_self ..) rfl); go_simp; (first | done | with_reducible rfl | fail))))); (try simp only [Act.put, List.setIfInBounds_toArray, List.set_cons_zero, List.set_cons_succ]))
    refine cq_nil ?_
    intro wq hq
    (try dsimp only at hq)
    go_wp2_with fail
    go_ret2
    exact .inr ⟨HA.out, rfl, hq.bare⟩
end Go.Proofs.YtlfdnlomlbbicaaGreatDoor
