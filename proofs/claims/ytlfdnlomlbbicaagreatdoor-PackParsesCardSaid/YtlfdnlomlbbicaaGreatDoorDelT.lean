/- The walk of the document's step. -/
import Derived.Test.YtlfdnlomlbbicaaGreatDoorJ9WireR
namespace Go.Proofs.YtlfdnlomlbbicaaGreatDoor
open Go.RowKit Go.Mx

/-- The document's step: the error, the bytes, where it ends. -/
def rsE (base : List UInt8) (k : UInt8) (l : List UInt8) (left : Int) : Int := if (stepR base k l).1 ≠ 0 then (stepR base k l).1 else if left < (stepR base k l).2.1.length then 3 else 0
def RStepPost (w : World) (base : List UInt8) (k : UInt8) (l : List UInt8) (left : Int) (len : Nat) (e : Ending) (w' : World) : Prop :=
  ∃ (vx : Value) (nx : Int), e = .returned (.tuple #[vx, .int .i64 nx, .int .i64 (rsE base k l left)]) ∧ St w w' [] [] ∧
    (rsE base k l left = 0 → Sl w 1 vx (stepR base k l).2.1.length (bs (stepR base k l).2.1) ∧ nx = ((len - (stepR base k l).2.2.length : Nat) : Int))
theorem RStepPost.bad {w w' : World} {base : List UInt8} {k : UInt8} {l : List UInt8} {left : Int} {len : Nat} {x : Int} (h : rsE base k l left = x) (hx : x ≠ 0) (hs : St w w' [] []) :
    RStepPost w base k l left len (.returned (.tuple #[.slice none 0 0, .int .i64 0, .int .i64 x])) w' := by
  refine ⟨_, _, by rw [h], hs, fun h0 => absurd (h.symm.trans h0) hx⟩
theorem RStepPost.good {w w' : World} {base : List UInt8} {k : UInt8} {l : List UInt8} {left : Int} {len : Nat} {vx : Value} {nx : Int} {sx sl : List UInt8} (h : rsE base k l left = 0) (hS : stepR base k l = (0, sx, sl)) (hs : St w w' [] [])
    (hv : Sl w 1 vx sx.length (bs sx)) (hn : nx = ((len - sl.length : Nat) : Int)) : RStepPost w base k l left len (.returned (.tuple #[vx, .int .i64 nx, .int .i64 0])) w' := by
  refine ⟨vx, nx, by rw [h], hs, fun _ => ?_⟩
  rw [hS]
  exact ⟨hv, hn⟩
theorem rsE_bad {base : List UInt8} {k : UInt8} {l : List UInt8} {left x : Int} {a b : List UInt8} (h : stepR base k l = (x, a, b)) (hx : x ≠ 0) : rsE base k l left = x := by
  unfold rsE; rw [h, if_pos hx]
theorem rsE_long {base : List UInt8} {k : UInt8} {l : List UInt8} {left : Int} {a b : List UInt8} (h : stepR base k l = (0, a, b)) (hx : left < a.length) : rsE base k l left = 3 := by
  unfold rsE; rw [h, if_neg (by simp), if_pos hx]
theorem rsE_good {base : List UInt8} {k : UInt8} {l : List UInt8} {left : Int} {a b : List UInt8} (h : stepR base k l = (0, a, b)) (hx : ¬ left < a.length) : rsE base k l left = 0 := by
  unfold rsE; rw [h, if_neg (by simp), if_neg hx]

set_option maxHeartbeats 1000000 in
theorem refStep_other (w : World) (vb vd : Value) (base d : List UInt8) (p : Nat) (left : Int) (hd : Sl w 1 vd d.length (bs d)) (hp : p < d.length) (hk1 : d[p] ≠ 1) (hk2 : d[p] ≠ 2) :
    Calls Tryz.prog 100 #[vb, vd, .int .i64 (p : Int), .int .i64 left] w (RStepPost w base d[p] (d.drop (p + 1)) left d.length) := by
  obtain ⟨ao, cap, rfl, h1, h2, _, hc⟩ := hd.bytes
  obtain ⟨blk, off, rfl, hcell⟩ := hc (by intro h; rw [h] at hp; simp at hp)
  have c1 := hcell p hp
  unfold maxLen at h2
  have hR : stepR base d[p] (d.drop (p + 1)) = (4, [], []) := by unfold stepR; rw [if_neg hk1, if_neg hk2]
  generalize hkk : d[p] = k at *
  have e1 : ((k.toNat : Int) != 1) = true := by
    rw [bne_iff_ne]; intro h; exact hk1 (UInt8.toNat_inj.1 (by simpa using (show k.toNat = 1 by omega)))
  have e2 : ((k.toNat : Int) != 2) = true := by
    rw [bne_iff_ne]; intro h; exact hk2 (UInt8.toNat_inj.1 (by simpa using (show k.toNat = 2 by omega)))
  have HR := Mx.hid (rsE_bad (left := left) hR (by decide))
  clear hcell hc hd hR hk1 hk2 hkk
  generalize (k.toNat : Int) = kk at *
  generalize d.length = dl at *
  go_enter Tryz.func100, Tryz.ntmps100
  go_wp2_with fail
  go_ret3
  exact RStepPost.bad HR.out (by decide) (St.refl _)

set_option maxHeartbeats 1000000 in
theorem refStep_ins (w : World) (vb vd : Value) (base d : List UInt8) (p : Nat) (left : Int) (hd : Sl w 1 vd d.length (bs d)) (hp : p < d.length) (hn : d.length ≤ 140737488355328) (hk : d[p] = 2) :
    Calls Tryz.prog 100 #[vb, vd, .int .i64 (p : Int), .int .i64 left] w (RStepPost w base 2 (d.drop (p + 1)) left d.length) := by
  have HD := Mx.hid hd
  obtain ⟨ao, cap, rfl, h1, h2, _, hc⟩ := hd.bytes
  obtain ⟨blk, off, rfl, hcell⟩ := hc (by intro h; rw [h] at hp; simp at hp)
  have c1 := hcell p hp
  rw [hk] at c1
  change _ = some (Value.int IntKind.u8 2) at c1
  unfold maxLen at h2
  have hg := nm_at (d := d) (k := p + 1) (by omega)
  have hSR : stepR base 2 (d.drop (p + 1)) = if nmE (d.drop (p + 1)) ≠ 0 then (nmE (d.drop (p + 1)), [], []) else if nmN (d.drop (p + 1)) = 0 then (4, [], []) else if ((d.drop (p + 1)).drop (nmJ (d.drop (p + 1)))).length < nmN (d.drop (p + 1)) then (2, [], []) else (0, ((d.drop (p + 1)).drop (nmJ (d.drop (p + 1)))).take (nmN (d.drop (p + 1))), ((d.drop (p + 1)).drop (nmJ (d.drop (p + 1)))).drop (nmN (d.drop (p + 1)))) := by
    unfold stepR; rw [if_neg (by decide), if_pos rfl]
  have hnm : nmN (d.drop (p + 1)) ≤ 72057594037927936 := by
    by_cases h : nmE (d.drop (p + 1)) = 0
    · exact (nm_good h).1
    · rw [(nm_bad h).1]; omega
  have hJ : p + 1 + nmJ (d.drop (p + 1)) ≤ d.length := by
    by_cases h : nmE (d.drop (p + 1)) = 0
    · have := (nm_good h).2.1; rw [List.length_drop] at this; omega
    · rw [(nm_bad h).2]; omega
  clear hcell hc hd hk
  simp only [List.drop_drop] at hSR
  generalize hll : d.drop (p + 1) = l at *
  generalize nmE l = ee at *
  generalize nmN l = nn at *
  generalize nmJ l = jj at *
  go_enter Tryz.func100, Tryz.ntmps100
  go_wp2_with fail
  refine (refGet_any _ d ((p : Int) + 1) w HD.out hn).mono ?_
  rintro e w1 ⟨rfl, hk⟩
  rw [show (p : Int) + 1 = ((p + 1 : Nat) : Int) by omega, hg]
  clear hg c1
  by_cases hee : ee = 0
  · subst hee
    rw [if_neg (by simp)] at hSR
    rw [if_pos rfl]
    by_cases hnn : nn = 0
    · subst hnn
      rw [if_pos rfl] at hSR
      have HR := Mx.hid (rsE_bad (left := left) hSR (by decide))
      clear hSR
      go_wp2_with fail
      go_ret3
      exact RStepPost.bad HR.out (by decide) hk
    · rw [if_neg hnn] at hSR
      have b1 : ((nn : Int) == 0) = false := by rw [beq_eq_false_iff_ne]; omega
      have hdl : (d.drop (p + 1 + jj)).length = d.length - (p + 1 + jj) := List.length_drop ..
      by_cases hsh : (d.drop (p + 1 + jj)).length < nn
      · rw [if_pos hsh] at hSR
        have HR := Mx.hid (rsE_bad (left := left) hSR (by decide))
        have b2 : (d.length : Int) - ((p + 1 + jj : Nat) : Int) < (nn : Int) := by omega
        clear hSR hsh hnn hdl
        generalize d.length = dl at *
        generalize hpj : p + 1 + jj = pj at *
        go_wp2_with fail
        go_ret3
        exact RStepPost.bad HR.out (by decide) hk
      · rw [if_neg hsh] at hSR
        have b2 : ¬ ((d.length : Int) - ((p + 1 + jj : Nat) : Int) < (nn : Int)) := by omega
        have htl : ((d.drop (p + 1 + jj)).take nn).length = nn := by rw [List.length_take]; omega
        by_cases hlg : left < (nn : Int)
        · have HR := Mx.hid (rsE_long (left := left) hSR (by rw [htl]; exact hlg))
          clear hSR hsh hnn hdl htl
          generalize d.length = dl at *
          generalize hpj : p + 1 + jj = pj at *
          go_wp2_with fail
          go_ret3
          exact RStepPost.bad HR.out (by decide) hk
        · have HR := Mx.hid (rsE_good (left := left) hSR (by rw [htl]; exact hlg))
          have HS := Mx.hid hSR
          obtain ⟨xa, p2, q2⟩ := HD.out.cutRun Tryz.elU8 (some (.int .i64 ((p + 1 + jj : Nat) : Int))) (some (.int .i64 (((p + 1 + jj : Nat) : Int) + (nn : Int)))) (p + 1 + jj) (p + 1 + jj + nn) (.inr ⟨.i64, rfl⟩) (.inr ⟨.i64, by push_cast; rfl⟩) (by omega) (by omega)
          have ha := Sl.cutB (q2 _ HD.out) (by omega) (by omega)
          have hcut : (d.take (p + 1 + jj + nn)).drop (p + 1 + jj) = (d.drop (p + 1 + jj)).take nn := by rw [List.drop_take]; congr 1; omega
          rw [hcut, htl] at ha
          have hlen : d.length - (d.drop (p + 1 + jj + nn)).length = p + 1 + jj + nn := by simp only [List.length_drop]; omega
          have HC := Mx.hid (And.intro hlen htl)
          obtain ⟨aa, ac, rfl, _⟩ := id ha
          have HA := Mx.hid ha
          clear hSR hsh hnn hdl htl hcut hlen ha q2
          have hb : p + 1 + jj + nn ≤ d.length := by omega
          generalize hdL : d.length = dl at *
          generalize hpj : p + 1 + jj = pj at *
          go_wp2_with fail
          go_ret3
          exact RStepPost.good HR.out HS.out hk (by rw [HC.out.2]; exact HA.out) (by rw [HC.out.1]; push_cast; rfl)
  · rw [if_pos hee] at hSR
    rw [if_neg hee]
    have HR := Mx.hid (rsE_bad (left := left) hSR hee)
    have b0 : (ee == 0) = false := by simpa using hee
    have b1 : (ee != 0) = true := by simpa using hee
    clear hSR
    go_wp2_with fail
    go_ret3
    exact RStepPost.bad HR.out hee hk

set_option maxHeartbeats 2000000 in
theorem refStep_copy (w : World) (vb vd : Value) (base d : List UInt8) (p : Nat) (left : Int) (hb : Sl w 1 vb base.length (bs base)) (hbl : base.length ≤ 140737488355328) (hd : Sl w 1 vd d.length (bs d)) (hp : p < d.length) (hn : d.length ≤ 140737488355328) (hk : d[p] = 1) :
    Calls Tryz.prog 100 #[vb, vd, .int .i64 (p : Int), .int .i64 left] w (RStepPost w base 1 (d.drop (p + 1)) left d.length) := by
  have HD := Mx.hid hd
  obtain ⟨ao, cap, rfl, h1, h2, _, hc⟩ := hd.bytes
  obtain ⟨blk, off, rfl, hcell⟩ := hc (by intro h; rw [h] at hp; simp at hp)
  have c1 := hcell p hp
  rw [hk] at c1
  change _ = some (Value.int IntKind.u8 1) at c1
  unfold maxLen at h2
  have hg := nm_at (d := d) (k := p + 1) (by omega)
  have hSR : stepR base 1 (d.drop (p + 1)) = if nmE (d.drop (p + 1)) ≠ 0 then (nmE (d.drop (p + 1)), [], []) else
    if nmE ((d.drop (p + 1)).drop (nmJ (d.drop (p + 1)))) ≠ 0 then (nmE ((d.drop (p + 1)).drop (nmJ (d.drop (p + 1)))), [], []) else
    if nmN ((d.drop (p + 1)).drop (nmJ (d.drop (p + 1)))) = 0 then (4, [], []) else
    if base.length < nmN (d.drop (p + 1)) ∨ base.length - nmN (d.drop (p + 1)) < nmN ((d.drop (p + 1)).drop (nmJ (d.drop (p + 1)))) then (1, [], []) else
    (0, (base.take (nmN (d.drop (p + 1)) + nmN ((d.drop (p + 1)).drop (nmJ (d.drop (p + 1)))))).drop (nmN (d.drop (p + 1))), ((d.drop (p + 1)).drop (nmJ (d.drop (p + 1)))).drop (nmJ ((d.drop (p + 1)).drop (nmJ (d.drop (p + 1)))))) := by
    unfold stepR; rw [if_pos rfl]
  have hnm : nmN (d.drop (p + 1)) ≤ 72057594037927936 := by
    by_cases h : nmE (d.drop (p + 1)) = 0
    · exact (nm_good h).1
    · rw [(nm_bad h).1]; omega
  have hJ : p + 1 + nmJ (d.drop (p + 1)) ≤ d.length := by
    by_cases h : nmE (d.drop (p + 1)) = 0
    · have := (nm_good h).2.1; rw [List.length_drop] at this; omega
    · rw [(nm_bad h).2]; omega
  clear hcell hc hd hk
  simp only [List.drop_drop] at hSR
  generalize hll : d.drop (p + 1) = l at *
  generalize nmE l = ee at *
  generalize nmN l = pl at *
  generalize nmJ l = jj at *
  go_enter Tryz.func100, Tryz.ntmps100
  go_wp2_with fail
  refine (refGet_any _ d ((p : Int) + 1) w HD.out hn).mono ?_
  rintro e w1 ⟨rfl, hk⟩
  rw [show (p : Int) + 1 = ((p + 1 : Nat) : Int) by omega, hg]
  clear hg c1
  by_cases hee : ee = 0
  · subst hee
    rw [if_neg (by simp)] at hSR
    rw [if_pos rfl]
    have hg2 := nm_at (d := d) (k := p + 1 + jj) hJ
    have hnm2 : nmN (d.drop (p + 1 + jj)) ≤ 72057594037927936 := by
      by_cases h : nmE (d.drop (p + 1 + jj)) = 0
      · exact (nm_good h).1
      · rw [(nm_bad h).1]; omega
    have hJ2 : p + 1 + jj + nmJ (d.drop (p + 1 + jj)) ≤ d.length := by
      by_cases h : nmE (d.drop (p + 1 + jj)) = 0
      · have := (nm_good h).2.1; rw [List.length_drop] at this; omega
      · rw [(nm_bad h).2]; omega
    generalize nmE (d.drop (p + 1 + jj)) = e2 at *
    generalize nmN (d.drop (p + 1 + jj)) = nn at *
    generalize nmJ (d.drop (p + 1 + jj)) = j2 at *
    have HSR := Mx.hid hSR
    have HG2 := Mx.hid hg2
    clear hSR hg2
    generalize hpj : p + 1 + jj = pj at *
    go_wp2_with fail
    refine (refGet_any _ d (pj : Int) w1 (hk.old HD.out) hn).mono ?_
    rintro e w2 ⟨rfl, hk2⟩
    rw [HG2.out]
    have hk := hk.call0 hk2
    have hSR := HSR.out
    clear HSR HG2 hk2
    by_cases he2 : e2 = 0
    · subst he2
      rw [if_neg (by simp)] at hSR
      rw [if_pos rfl]
      by_cases hnn : nn = 0
      · subst hnn
        rw [if_pos rfl] at hSR
        have HR := Mx.hid (rsE_bad (left := left) hSR (by decide))
        clear hSR
        go_wp2_with fail
        go_ret3
        exact RStepPost.bad HR.out (by decide) hk
      · rw [if_neg hnn] at hSR
        have b1 : ((nn : Int) == 0) = false := by rw [beq_eq_false_iff_ne]; omega
        obtain ⟨bo, bc, rfl, _⟩ := id hb
        generalize hmb : base.length = mb at *
        by_cases hr1 : mb < pl
        · rw [if_pos (.inl hr1)] at hSR
          have b2 : (mb : Int) < (pl : Int) := by omega
          have HR := Mx.hid (rsE_bad (left := left) hSR (by decide))
          clear hSR hnn hr1
          go_wp2_with fail
          go_ret3
          exact RStepPost.bad HR.out (by decide) hk
        · by_cases hr2 : mb - pl < nn
          · rw [if_pos (.inr hr2)] at hSR
            have b2 : ¬ ((mb : Int) < (pl : Int)) := by omega
            have b3 : (mb : Int) - (pl : Int) < (nn : Int) := by omega
            have HR := Mx.hid (rsE_bad (left := left) hSR (by decide))
            clear hSR hnn hr1 hr2
            go_wp2_with fail
            go_ret3
            exact RStepPost.bad HR.out (by decide) hk
          · rw [if_neg (by omega)] at hSR
            have b2 : ¬ ((mb : Int) < (pl : Int)) := by omega
            have b3 : ¬ ((mb : Int) - (pl : Int) < (nn : Int)) := by omega
            have htl : ((base.take (pl + nn)).drop pl).length = nn := by rw [List.length_drop, List.length_take]; omega
            by_cases hlg : left < (nn : Int)
            · have HR := Mx.hid (rsE_long (left := left) hSR (by rw [htl]; exact hlg))
              clear hSR hnn htl hr1 hr2
              go_wp2_with fail
              go_ret3
              exact RStepPost.bad HR.out (by decide) hk
            · have HR := Mx.hid (rsE_good (left := left) hSR (by rw [htl]; exact hlg))
              have HS := Mx.hid hSR
              obtain ⟨xa, p2, q2⟩ := hb.cutRun Tryz.elU8 (some (.int .i64 (pl : Int))) (some (.int .i64 ((pl : Int) + (nn : Int)))) pl (pl + nn) (.inr ⟨.i64, rfl⟩) (.inr ⟨.i64, by push_cast; rfl⟩) (by omega) (by omega)
              have ha := Sl.cutB (q2 _ hb) (by omega) (by omega)
              rw [htl] at ha
              have hlen : d.length - (d.drop (pj + j2)).length = pj + j2 := by simp only [List.length_drop]; omega
              have HC := Mx.hid (And.intro hlen htl)
              obtain ⟨aa, ac, rfl, _⟩ := id ha
              have HA := Mx.hid ha
              clear hSR hnn htl hlen ha q2 hr1 hr2
              go_wp2_with fail
              go_ret3
              exact RStepPost.good HR.out HS.out hk (by rw [HC.out.2]; exact HA.out) (by rw [HC.out.1]; push_cast; rfl)
    · rw [if_pos he2] at hSR
      rw [if_neg he2]
      have HR := Mx.hid (rsE_bad (left := left) hSR he2)
      have b1 : (e2 != 0) = true := by simpa using he2
      clear hSR
      go_wp2_with fail
      go_ret3
      exact RStepPost.bad HR.out he2 hk
  · rw [if_pos hee] at hSR
    rw [if_neg hee]
    have HR := Mx.hid (rsE_bad (left := left) hSR hee)
    have b0 : (ee == 0) = false := by simpa using hee
    have b1 : (ee != 0) = true := by simpa using hee
    clear hSR
    go_wp2_with fail
    go_ret3
    exact RStepPost.bad HR.out hee hk

theorem refStep_any (w : World) (vb vd : Value) (base d : List UInt8) (p : Nat) (left : Int) (hb : Sl w 1 vb base.length (bs base)) (hbl : base.length ≤ 140737488355328) (hd : Sl w 1 vd d.length (bs d)) (hp : p < d.length) (hn : d.length ≤ 140737488355328) :
    Calls Tryz.prog 100 #[vb, vd, .int .i64 (p : Int), .int .i64 left] w (RStepPost w base d[p] (d.drop (p + 1)) left d.length) := by
  by_cases h1 : d[p] = 1
  · rw [h1]; exact refStep_copy w vb vd base d p left hb hbl hd hp hn h1
  · by_cases h2 : d[p] = 2
    · rw [h2]; exact refStep_ins w vb vd base d p left hd hp hn h2
    · exact refStep_other w vb vd base d p left hd hp h1 h2
end Go.Proofs.YtlfdnlomlbbicaaGreatDoor
