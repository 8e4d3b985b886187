/- marref.Has: is a text among texts. The document's graph in memory; walks of its at, Has, Stamp, Parents. -/
import Derived.Test.YtloogjdafhjheaaGreatJ1Lib3
import Derived.Test.YtloogjdafhjheaaGreatJ15DagA
import Derived.Test.YtloogjdafhjheaaGreatJ5RVal
namespace Go.Proofs.YtloogjdafhjheaaGreat
open Go.RowKit Go.Mx

/-- Is a text among texts. -/
def hasT (l : List ByteArray) (s : ByteArray) : Bool := l.any fun x => x.toList == s.toList
theorem hasT_iff {l : List ByteArray} {s : ByteArray} : hasT l s = true ↔ s ∈ l := by
  unfold hasT
  rw [List.any_eq_true]
  constructor
  · rintro ⟨x, hx, he⟩
    have e : x = s := toL_inj (by simpa using he)
    exact e ▸ hx
  · intro h
    exact ⟨s, h, by simp⟩
theorem hasT_not {l : List ByteArray} {s : ByteArray} : hasT l s = false ↔ s ∉ l := by
  rw [← hasT_iff]; simp

theorem has_any (v : Value) (l : List ByteArray) (w : World) (hv : Sl w 1 v l.length (ss l)) (s : ByteArray) :
    Calls Tryz.prog 31 #[v, .string s] w fun e w' => e = .returned (.bool (hasT l s)) ∧ w = w' := by
  obtain ⟨ao, cap, blk, off, rfl, h1, h2, _, hc⟩ := hv.txt
  clear hv
  have HC := hid hc
  clear hc
  go_enter Tryz.func31, Tryz.ntmps31
  go_wp2_with fail
  go_loop [5] (fun x => ∃ i : Nat, i ≤ l.length ∧ x = .int .i64 i ∧ Hid (s ∉ l.take i)) (fun x => l.length - (intOf x).toNat)
  case atStart => exact ⟨0, by omega, rfl, by simp [Hid]⟩
  case round =>
    obtain ⟨i, hi, rfl, Ht⟩ := hrel
    by_cases hlt : i < l.length
    · obtain ⟨rfl, c1⟩ := HC.out i hlt
      have hii : (i : Int) < (l.length : Int) := by omega
      by_cases hx : l[i] = s
      · have hb := tx_beq hx
        have Hx := hid hx
        clear hx
        go_wp2_with fail
        go_ret
        exact ⟨by rw [hasT_iff.2 (show s ∈ l from Hx.out ▸ List.getElem_mem hlt)]; rfl, rfl⟩
      · have hb := tx_bne hx
        have Hx := hid hx
        clear hx
        go_wp2_with fail
        go_round
        case rel => exact ⟨i + 1, by omega, by go_num, by rw [List.take_succ_eq_append_getElem hlt]; intro h; rcases List.mem_append.1 h with h | h; exact Ht.out h; exact Hx.out (List.mem_singleton.1 h).symm⟩
        case measure => simp [intOf]; omega
    · go_wp2_with fail
      go_ret
      exact ⟨by rw [hasT_not.2 (by have := Ht.out; rwa [List.take_of_length_le (by omega)] at this)]; rfl, rfl⟩
end Go.Proofs.YtloogjdafhjheaaGreat

namespace Go.Mx
open Go Go.RowKit

/-- The first place of a name; -1: it is not there. -/
def ixL : List Nd → ByteArray → Int
  | [], _ => -1
  | n :: L, k => if n.1 = k then 0 else if ixL L k < 0 then -1 else ixL L k + 1
theorem ixL_cases (L : List Nd) (k : ByteArray) : (∃ (j : Nat) (hj : j < L.length), L[j].1 = k ∧ ixL L k = (j : Int) ∧ fnd L k = some L[j].2) ∨ (k ∉ L.map Prod.fst ∧ ixL L k = -1 ∧ fnd L k = none) := by
  induction L with
  | nil => exact .inr ⟨by simp, rfl, rfl⟩
  | cons n L ih =>
    rw [ixL, fnd]
    by_cases h : n.1 = k
    · exact .inl ⟨0, by simp, h, by rw [if_pos h]; rfl, by rw [if_pos h]; rfl⟩
    · rw [if_neg h, if_neg h]
      rcases ih with ⟨j, hj, h1, h2, h3⟩ | ⟨h1, h2, h3⟩
      · exact .inl ⟨j + 1, by simpa using hj, by simpa using h1, by rw [h2, if_neg (by omega)]; push_cast; rfl, by simpa using h3⟩
      · exact .inr ⟨by simp [Ne.symm h]; simpa using h1, by rw [h2]; rfl, h3⟩
theorem ixL_at : ∀ {L : List Nd} {i : Nat} (hi : i < L.length) {k : ByteArray}, L[i].1 = k → k ∉ (L.take i).map Prod.fst → ixL L k = (i : Int)
  | n :: L, 0, _, k, h, _ => by rw [ixL, if_pos (by simpa using h)]; rfl
  | n :: L, i + 1, hi, k, h, hn => by
    rw [List.take_succ_cons, List.map_cons, List.mem_cons] at hn
    rw [ixL, if_neg (fun e => hn (.inl e.symm)), ixL_at (by simpa using hi) (by simpa using h) (fun e => hn (.inr e)), if_neg (by omega)]
    push_cast
    rfl
theorem ixL_no {L : List Nd} {k : ByteArray} (h : k ∉ L.map Prod.fst) : ixL L k = -1 := by
  rcases ixL_cases L k with ⟨j, hj, h1, _⟩ | ⟨_, h2, _⟩
  · exact absurd (List.mem_map.2 ⟨_, List.getElem_mem hj, h1⟩) h
  · exact h2

/-- At address x stands the document's graph: its three lists, the parents' slices. -/
structure XG (w : World) (x : Nat) (vi vp vs : Value) (L : List Nd) (PV : List Value) : Prop where
  c0 : w.cell? ⟨x, 0, none⟩ = some vi
  c1 : w.cell? ⟨x, 1, none⟩ = some vp
  c2 : w.cell? ⟨x, 2, none⟩ = some vs
  si : Sl w 1 vi L.length (ss (L.map (·.1)))
  sp : Sl w 1 vp L.length PV
  st : Sl w 1 vs L.length (is (L.map (·.2.2)))
  sl : ∀ (j : Nat) (hj : j < L.length), ∃ pv, PV[j]? = some pv ∧ Sl w 1 pv L[j].2.1.length (ss L[j].2.1)
theorem XG.old {w0 w : World} {R : List Row} {Q : List Rd} {x : Nat} {vi vp vs : Value} {L : List Nd} {PV : List Value} (h : XG w0 x vi vp vs L PV) (hs : St w0 w R Q) : XG w x vi vp vs L PV where
  c0 := hs.keep h.c0
  c1 := hs.keep h.c1
  c2 := hs.keep h.c2
  si := hs.old h.si
  sp := hs.old h.sp
  st := hs.old h.st
  sl j hj := by
    obtain ⟨pv, h1, h2⟩ := h.sl j hj
    exact ⟨pv, h1, hs.old h2⟩
/-- The ids' cells. -/
theorem ids_of {w : World} {vi : Value} {L : List Nd} (h : Sl w 1 vi L.length (ss (L.map (·.1)))) : ∃ ao cap blk off, vi = .slice ao L.length cap ∧ L.length ≤ cap ∧ cap ≤ 9223372036854775807 ∧
    ∀ (j : Nat) (hj : j < L.length), ao = some ⟨blk, off, none⟩ ∧ w.cell? ⟨blk, off + j, none⟩ = some (.string L[j].1) := by
  obtain ⟨ao, cap, blk, off, rfl, h1, h2, h3, hc⟩ := h.txt
  refine ⟨ao, cap, blk, off, rfl, h1, h2, fun j hj => ?_⟩
  have := hc j (by simpa using hj)
  rwa [List.getElem_map] at this
/-- The stamps' cells. -/
theorem stamps_of {w : World} {vs : Value} {L : List Nd} (h : Sl w 1 vs L.length (is (L.map (·.2.2)))) : ∃ ao cap blk off, vs = .slice ao L.length cap ∧ L.length ≤ cap ∧ cap ≤ 9223372036854775807 ∧
    ∀ (j : Nat) (hj : j < L.length), ao = some ⟨blk, off, none⟩ ∧ w.cell? ⟨blk, off + j, none⟩ = some (.int .i64 L[j].2.2) := by
  obtain ⟨ao, cap, rfl, h1, h2, _, _, h5⟩ := h.form
  cases L with
  | nil => exact ⟨ao, cap, 0, 0, rfl, h1, h2, fun j hj => by simp at hj⟩
  | cons n L =>
    obtain ⟨b, off, rfl, hc⟩ := h5 (by simp [is])
    exact ⟨_, cap, b, off, rfl, h1, h2, fun j hj => ⟨rfl, hc j _ (by rw [is, List.getElem?_map, List.getElem?_map, List.getElem?_eq_getElem hj]; rfl)⟩⟩
/-- The parents' cells. -/
theorem XG.pars {w : World} {x : Nat} {vi vp vs : Value} {L : List Nd} {PV : List Value} (h : XG w x vi vp vs L PV) : ∃ ao cap blk off, vp = .slice ao L.length cap ∧ L.length ≤ cap ∧ cap ≤ 9223372036854775807 ∧
    ∀ (j : Nat) (hj : j < L.length), ao = some ⟨blk, off, none⟩ ∧ ∃ pv, w.cell? ⟨blk, off + j, none⟩ = some pv ∧ Sl w 1 pv L[j].2.1.length (ss L[j].2.1) := by
  obtain ⟨ao, cap, rfl, h1, h2, _, _, h5⟩ := h.sp.form
  by_cases hn : PV = []
  · refine ⟨ao, cap, 0, 0, rfl, h1, h2, fun j hj => ?_⟩
    obtain ⟨pv, hp, _⟩ := h.sl j hj
    rw [hn] at hp
    cases hp
  · obtain ⟨b, off, rfl, hc⟩ := h5 hn
    refine ⟨_, cap, b, off, rfl, h1, h2, fun j hj => ?_⟩
    obtain ⟨pv, hp, hs⟩ := h.sl j hj
    exact ⟨rfl, pv, hc j pv hp, hs⟩
end Go.Mx
namespace Go.Proofs.YtloogjdafhjheaaGreat
open Go.RowKit Go.Mx

theorem at_y (x : Nat) (vi : Value) (L : List Nd) (k : ByteArray) (w : World) (c0 : w.cell? ⟨x, 0, none⟩ = some vi) (hsi : Sl w 1 vi L.length (ss (L.map (·.1)))) :
    Calls Tryz.prog 36 #[.pointer (some ⟨x, 0, none⟩), .string k] w fun e w' => e = .returned (.int .i64 (ixL L k)) ∧ w = w' := by
  obtain ⟨ao, cap, blk, off, rfl, h1, h2, hc⟩ := ids_of hsi
  have HC := Mx.hid hc
  clear hsi hc
  go_enter Tryz.func36, Tryz.ntmps36
  go_wp2_with fail
  go_loop [5] (fun y => ∃ i : Nat, i ≤ L.length ∧ y = .int .i64 i ∧ Hid (k ∉ (L.take i).map Prod.fst)) (fun y => L.length - (intOf y).toNat)
  case atStart => exact ⟨0, by omega, rfl, by simp [Hid]⟩
  case round =>
    obtain ⟨i, hi, rfl, Ht⟩ := hrel
    by_cases hlt : i < L.length
    · obtain ⟨rfl, c1⟩ := HC.out i hlt
      have hii : (i : Int) < (L.length : Int) := by omega
      by_cases hx : L[i].1 = k
      · have hb := tx_beq hx
        have HE := Mx.hid (ixL_at hlt hx Ht.out)
        clear hx
        generalize L[i].1 = y at *
        go_wp2_with fail
        go_ret
        exact ⟨by rw [HE.out]; rfl, rfl⟩
      · have hb := tx_bne hx
        have HE : Hid (k ∉ (L.take (i + 1)).map Prod.fst) := by
          rw [List.take_succ_eq_append_getElem hlt, List.map_append, List.mem_append]
          intro h
          rcases h with h | h
          · exact Ht.out h
          · simp at h; exact hx h.symm
        clear hx
        generalize L[i].1 = y at *
        go_wp2_with fail
        go_round
        case rel => exact ⟨i + 1, by omega, by go_num, HE⟩
        case measure => simp [intOf]; omega
    · have HE := Mx.hid (ixL_no (L := L) (k := k) (by have := Ht.out; rwa [List.take_of_length_le (by omega)] at this))
      go_wp2_with fail
      go_ret
      exact ⟨by rw [HE.out]; rfl, rfl⟩
theorem at_x (x : Nat) (vi vp vs : Value) (L : List Nd) (PV : List Value) (k : ByteArray) (w : World) (h : XG w x vi vp vs L PV) :
    Calls Tryz.prog 36 #[.pointer (some ⟨x, 0, none⟩), .string k] w fun e w' => e = .returned (.int .i64 (ixL L k)) ∧ w = w' := at_y x vi L k w h.c0 h.si
set_option maxRecDepth 100000 in
theorem xhas_any (x : Nat) (vi vp vs : Value) (L : List Nd) (PV : List Value) (k : ByteArray) (w : World) (h : XG w x vi vp vs L PV) :
    Calls Tryz.prog 34 #[.pointer (some ⟨x, 0, none⟩), .string k] w fun e w' => e = .returned (.bool (isIn L k)) ∧ w = w' := by
  have HA := Mx.hid (at_x x vi vp vs L PV k w h)
  clear h
  rcases ixL_cases L k with ⟨j, hj, h1, h2, h3⟩ | ⟨h1, h2, h3⟩
  · have HI := Mx.hid (show isIn L k = true by unfold isIn; rw [h3]; rfl)
    rw [h2] at HA
    clear h1 h2 h3
    go_enter Tryz.func34, Tryz.ntmps34
    go_wp2_with fail
    refine HA.out.mono ?_
    rintro e w1 ⟨rfl, rfl⟩
    go_wp2_with fail
    go_ret
    exact ⟨by rw [HI.out]; rfl, rfl⟩
  · have HI := Mx.hid (show isIn L k = false by unfold isIn; rw [h3]; rfl)
    rw [h2] at HA
    clear h1 h2 h3
    go_enter Tryz.func34, Tryz.ntmps34
    go_wp2_with fail
    refine HA.out.mono ?_
    rintro e w1 ⟨rfl, rfl⟩
    go_wp2_with fail
    go_ret
    exact ⟨by rw [HI.out]; rfl, rfl⟩
set_option maxRecDepth 100000 in
theorem xstamp_any (x : Nat) (vi vp vs : Value) (L : List Nd) (PV : List Value) (k : ByteArray) (w : World) (h : XG w x vi vp vs L PV) :
    Calls Tryz.prog 14 #[.pointer (some ⟨x, 0, none⟩), .string k] w fun e w' => e = .returned (.int .i64 (stampL L k)) ∧ St w w' [] [] := by
  have HA := Mx.hid (fun w' (hs : St w w' [] []) => at_x x vi vp vs L PV k w' (h.old hs))
  have HH := Mx.hid (xhas_any x vi vp vs L PV k w h)
  have c2 := h.c2
  obtain ⟨ao, cap, blk, off, rfl, h1, h2, hc⟩ := stamps_of h.st
  clear h
  rcases ixL_cases L k with ⟨j, hj, h1', h2', h3⟩ | ⟨h1', h2', h3⟩
  · have HI := Mx.hid (show stampL L k = L[j].2.2 by unfold stampL; rw [h3])
    rw [show isIn L k = true by unfold isIn; rw [h3]; rfl] at HH
    rw [h2'] at HA
    obtain ⟨rfl, d0⟩ := hc j hj
    clear h1' h2' h3 hc
    generalize L[j].2.2 = z at *
    have HC := Mx.hid (fun w' (hs : St w w' [] []) => And.intro (hs.keep c2) (hs.keep d0))
    have hjj : (j : Int) < (L.length : Int) := by omega
    go_enter Tryz.func14, Tryz.ntmps14
    go_wp2_with fail
    refine HH.out.mono ?_
    rintro e w1 ⟨rfl, rfl⟩
    go_wp2_with fail
    refine wp_region_C (fun W' => St w W' [] []) (by kernel_rfl) (by kernel_rfl) (by exact (St.refl w).drew) ?_
    repeat ((first | (refine cq_y0 (v := ?_) (by with_reducible rfl) ?_ ?_; rotate_left 1; (focus (intro wq hq; (try dsimp only at hq); (obtain ⟨y0, y1⟩ := HC.out _ hq); go_simp; (first | done | with_reducible rfl | (go_at_call 36; refine (HA.out _ hq).mono ?_; rintro e w9 ⟨rfl, rfl⟩; refine ⟨?_, hq⟩; with_reducible rfl))))) | (refine cq_no (by go_simp; first | done | (intro h9; cases h9)) ?_) | (refine cq_yes (v := ?_) (by go_simp) ?_ ?_; rotate_left 1; (focus (intro wq hq; (try dsimp only at hq); (obtain ⟨y0, y1⟩ := HC.out _ hq); go_simp; (first | done | with_reducible rfl | (go_at_call 36; refine (HA.out _ hq).mono ?_; rintro e w9 ⟨rfl, rfl⟩; refine ⟨?_, hq⟩; with_reducible rfl)))))); (try simp only [Act.put, List.setIfInBounds_toArray, List.set_cons_zero, List.set_cons_succ]))
    refine cq_nil ?_
    intro wq hq
    (try dsimp only at hq)
    go_wp2_with fail
    go_ret
    exact ⟨by rw [HI.out]; rfl, hq⟩
  · have HI := Mx.hid (show stampL L k = -1 by unfold stampL; rw [h3])
    rw [show isIn L k = false by unfold isIn; rw [h3]; rfl] at HH
    clear h1' h2' h3 hc
    go_enter Tryz.func14, Tryz.ntmps14
    go_wp2_with fail
    refine HH.out.mono ?_
    rintro e w1 ⟨rfl, rfl⟩
    go_wp2_with fail
    go_ret
    exact ⟨by rw [HI.out]; rfl, St.refl w⟩
def ParsPost (w : World) (ps : List ByteArray) (e : Ending) (w' : World) : Prop := ∃ v, e = .returned v ∧ St w w' [⟨v, 9, 1, ps.length, ss ps⟩] []
set_option maxRecDepth 100000 in
theorem xpars_any (x : Nat) (vi vp vs : Value) (L : List Nd) (PV : List Value) (k : ByteArray) (w : World) (h : XG w x vi vp vs L PV) (hl : ∀ n ∈ L, n.2.1.length ≤ 1000000) :
    Calls Tryz.prog 17 #[.pointer (some ⟨x, 0, none⟩), .string k] w (ParsPost w (parsG L k)) := by
  have HA := Mx.hid (fun w' (hs : St w w' [] []) => at_x x vi vp vs L PV k w' (h.old hs))
  have HH := Mx.hid (xhas_any x vi vp vs L PV k w h)
  have c1 := h.c1
  obtain ⟨ao, cap, blk, off, rfl, h1, h2, hc⟩ := h.pars
  clear h
  rcases ixL_cases L k with ⟨j, hj, h1', h2', h3⟩ | ⟨h1', h2', h3⟩
  · have HI := Mx.hid (show parsG L k = L[j].2.1 by unfold parsG; rw [h3])
    rw [show isIn L k = true by unfold isIn; rw [h3]; rfl] at HH
    rw [h2'] at HA
    have hpl := hl _ (List.getElem_mem hj)
    obtain ⟨rfl, pv, d0, hps⟩ := hc j hj
    clear h1' h2' h3 hc hl
    generalize L[j].2.1 = ps at *
    obtain ⟨po, pc, rfl, _⟩ := hps.form
    have HC := Mx.hid (fun w' (hs : St w w' [] []) => And.intro (hs.keep c1) (hs.keep d0))
    have HPS := Mx.hid (fun w' (hs : St w w' [] []) => copyTexts_any _ ps w' (hs.old hps) (by omega))
    have hjj : (j : Int) < (L.length : Int) := by omega
    clear hps
    go_enter Tryz.func17, Tryz.ntmps17
    go_wp2_with fail
    refine HH.out.mono ?_
    rintro e w1 ⟨rfl, rfl⟩
    go_wp2_with fail
    have hc0 := HC.out _ (St.refl w)
    (refine wp_region_S (10) (fun W' => W'.cell? ⟨x, 1, none⟩ = some (.slice (some ⟨blk, off, none⟩) L.length cap) ∧ W'.cell? ⟨blk, off + j, none⟩ = some (.slice po ps.length pc)) (by kernel_rfl) ?_ (fun hHeld => ?_); (focus ((try dsimp only); exact hc0)))
    (refine wpAnyS_takeW (i := 0) (v := ?_) rfl (by kernel_rfl) (by kernel_rfl) (by kernel_rfl) (by kernel_rfl) (fun _ _ _ h => h) (Or.inl ⟨by rfl, ?_⟩) hHeld ?_; rotate_left 1; (focus (intro w' hSw; go_simp; (try with_reducible rfl))); (try simp only [Act.put, List.setIfInBounds_toArray, List.set_cons_zero, List.set_cons_succ]))
    (refine wpAnyS_takeW (i := 1) (v := ?_) rfl (by kernel_rfl) (by kernel_rfl) (by kernel_rfl) (by kernel_rfl) (fun _ _ _ h => h) (Or.inl ⟨by rfl, ?_⟩) hHeld ?_; rotate_left 1; (focus (intro w' hSw; go_simp; (try with_reducible rfl))); (try simp only [Act.put, List.setIfInBounds_toArray, List.set_cons_zero, List.set_cons_succ]))
    (refine wpAnyS_takeW (i := 2) (v := ?_) rfl (by kernel_rfl) (by kernel_rfl) (by kernel_rfl) (by kernel_rfl) (fun _ _ _ h => h) (Or.inl ⟨by rfl, ?_⟩) hHeld ?_; rotate_left 1; (focus (intro w' hSw; go_simp; (try with_reducible rfl))); (try simp only [Act.put, List.setIfInBounds_toArray, List.set_cons_zero, List.set_cons_succ]))
    (refine wpAnyS_takeL (i := 3) (v := ?_) rfl (by kernel_rfl) (by kernel_rfl) (by kernel_rfl) (by kernel_rfl) (by kernel_rfl) (by kernel_rfl) (fun _ _ _ h => h) (Or.inl ⟨by rfl, ?_⟩) hHeld ?_; rotate_left 1; (focus (intro w' hSw; (try dsimp only at hSw); go_simp; (try with_reducible rfl))); (try simp only [Act.put, List.setIfInBounds_toArray, List.set_cons_zero, List.set_cons_succ]))
    (refine wpAnyS_takeW (i := 4) (v := ?_) rfl (by kernel_rfl) (by kernel_rfl) (by kernel_rfl) (by kernel_rfl) (fun _ _ _ h => h) (Or.inl ⟨by rfl, ?_⟩) hHeld ?_; rotate_left 1; (focus (intro w' hSw; go_simp; (try with_reducible rfl))); (try simp only [Act.put, List.setIfInBounds_toArray, List.set_cons_zero, List.set_cons_succ]))
    (refine wpAnyS_takeW (i := 5) (v := ?_) rfl (by kernel_rfl) (by kernel_rfl) (by kernel_rfl) (by kernel_rfl) (fun _ _ _ h => h) (Or.inl ⟨by rfl, ?_⟩) hHeld ?_; rotate_left 1; (focus (intro w' hSw; go_simp; (try with_reducible rfl))); (try simp only [Act.put, List.setIfInBounds_toArray, List.set_cons_zero, List.set_cons_succ]))
    (refine wpAnyS_ready (rs := [6]) (by kernel_rfl) (by simp) ?_; refine AllS.consL rfl (fun K hK => ?_) AllS.nil)
    (go_simp; go_at_call 36; refine (HA.out _ (St.refl w).drew).mono ?_; rintro e w' ⟨rfl, rfl⟩; go_wp2_with fail)
    (refine hK.out _ _ ?_ (fun hHeld => ?_); (focus ((try dsimp only); exact hc0)); clear hK K; (try simp only [Act.put, List.setIfInBounds_toArray, List.set_cons_zero, List.set_cons_succ]))
    (refine wpAnyS_takeW (i := 7) (v := ?_) rfl (by kernel_rfl) (by kernel_rfl) (by kernel_rfl) (by kernel_rfl) (fun _ _ _ h => h) (Or.inl ⟨by rfl, ?_⟩) hHeld ?_; rotate_left 1; (focus (intro w' hSw; go_simp; (try with_reducible rfl))); (try simp only [Act.put, List.setIfInBounds_toArray, List.set_cons_zero, List.set_cons_succ]))
    (refine wpAnyS_takeL (i := 8) (v := ?_) rfl (by kernel_rfl) (by kernel_rfl) (by kernel_rfl) (by kernel_rfl) (by kernel_rfl) (by kernel_rfl) (fun _ _ _ h => h) (Or.inl ⟨by rfl, ?_⟩) hHeld ?_; rotate_left 1; (focus (intro w' hSw; (try dsimp only at hSw); go_simp; (try with_reducible rfl))); (try simp only [Act.put, List.setIfInBounds_toArray, List.set_cons_zero, List.set_cons_succ]))
    (refine wpAnyS_ready (rs := [9]) (by kernel_rfl) (by simp) ?_; refine AllS.consL rfl (fun K hK => ?_) AllS.nil)
    (go_simp; go_at_call 38; refine (HPS.out _ (St.refl w).drew).mono ?_; rintro e w' ⟨v9, rfl, h9⟩; go_wp2_with fail)
    (refine hK.out _ _ ?_ (fun hHeld => ?_); (focus ((try dsimp only); exact ⟨h9.keep hc0.1, h9.keep hc0.2⟩)); clear hK K; (try simp only [Act.put, List.setIfInBounds_toArray, List.set_cons_zero, List.set_cons_succ]))
    (refine wpAnyS_seq (by rfl) (by kernel_rfl) ?_; simp only [List.drop_succ_cons, List.drop_zero])
    go_wp2_with fail
    go_ret
    rw [HI.out]
    exact ⟨v9, rfl, ((St.refl w).drew.call h9).sub (by simp) (by simp)⟩
  · have HI := Mx.hid (show parsG L k = [] by unfold parsG; rw [h3])
    rw [show isIn L k = false by unfold isIn; rw [h3]; rfl] at HH
    clear h1' h2' h3 hc hl
    go_enter Tryz.func17, Tryz.ntmps17
    go_wp2_with fail
    refine HH.out.mono ?_
    rintro e w1 ⟨rfl, rfl⟩
    go_wp2_with fail
    go_ret
    rw [HI.out]
    exact ⟨_, rfl, St.nil w _ _⟩
end Go.Proofs.YtloogjdafhjheaaGreat
