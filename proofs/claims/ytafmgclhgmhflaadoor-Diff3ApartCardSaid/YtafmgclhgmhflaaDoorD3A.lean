/- Changes apart: plain facts. -/
import Derived.Test.YtafmgclhgmhflaaDoorD3T
namespace Go.Mx
open Go Go.RowKit
def t5 (sg : UInt8) (i : Nat) (x : UInt8) : List UInt8 := [sg, UInt8.ofNat (48 + i / 10), UInt8.ofNat (48 + i % 10), UInt8.ofNat (97 + x.toNat % 26), 10]
def tF (sg : UInt8) (b : List UInt8) (k : Nat) : List UInt8 := ((List.range k).map fun i => t5 sg i (b.getD i 0)).flatten
def tL (sg : UInt8) (b : List UInt8) : List UInt8 := tF sg b b.length
def tX (sg : UInt8) (b : List UInt8) : Tx := (List.range b.length).map fun i => str (t5 sg i (b.getD i 0))
theorem tF_succ (sg : UInt8) (b : List UInt8) (k : Nat) : tF sg b (k + 1) = tF sg b k ++ t5 sg k (b.getD k 0) := by simp [tF, List.range_succ]
theorem tF_len (sg : UInt8) (b : List UInt8) : ∀ k, (tF sg b k).length = 5 * k
  | 0 => rfl
  | k + 1 => by rw [tF_succ, List.length_append, tF_len sg b k]; simp [t5]; omega
theorem tX_len (sg : UInt8) (b : List UInt8) : (tX sg b).length = b.length := by simp [tX]
theorem ofNat_ne {n k : Nat} (hn : n < 256) (hk : k < 256) (h : n ≠ k) : UInt8.ofNat n ≠ UInt8.ofNat k := fun he => by
  have := congrArg UInt8.toNat he
  rw [UInt8.toNat_ofNat', UInt8.toNat_ofNat'] at this
  omega
theorem t5_line {sg : UInt8} {i : Nat} {x : UInt8} (hs : sg ≠ 10) (hi : i < 100) : ∃ q, t5 sg i x = q ++ [10] ∧ (10 : UInt8) ∉ q := by
  refine ⟨[sg, UInt8.ofNat (48 + i / 10), UInt8.ofNat (48 + i % 10), UInt8.ofNat (97 + x.toNat % 26)], rfl, ?_⟩
  simp only [List.mem_cons, List.not_mem_nil, or_false, not_or]
  exact ⟨Ne.symm hs, ofNat_ne (n := 10) (by omega) (by omega) (by omega), ofNat_ne (n := 10) (by omega) (by omega) (by omega), ofNat_ne (n := 10) (by omega) (by omega) (by omega)⟩
theorem t5_zero {sg : UInt8} {i : Nat} {x : UInt8} (hs : sg ≠ 0) (hi : i < 100) : (0 : UInt8) ∉ t5 sg i x := by
  unfold t5
  simp only [List.mem_cons, List.not_mem_nil, or_false, not_or]
  exact ⟨Ne.symm hs, ofNat_ne (n := 0) (by omega) (by omega) (by omega), ofNat_ne (n := 0) (by omega) (by omega) (by omega), ofNat_ne (n := 0) (by omega) (by omega) (by omega), by decide⟩
def midL : List UInt8 := [109, 105, 100, 10]
/-- The text of lines, a line between, and lines. -/
def cat3 (s : UInt8) (a : List UInt8) (r : UInt8) (b : List UInt8) : List UInt8 := (tL s a ++ midL) ++ tL r b
theorem cat3_len (s r : UInt8) (a b : List UInt8) : (cat3 s a r b).length = 5 * a.length + 4 + 5 * b.length := by
  unfold cat3 tL; rw [List.length_append, List.length_append, tF_len, tF_len]; rfl
theorem cat3_lines (s r : UInt8) (a b : List UInt8) : cat3 s a r b = (((List.range a.length).map fun i => t5 s i (a.getD i 0)) ++ midL :: ((List.range b.length).map fun i => t5 r i (b.getD i 0))).flatten := by
  unfold cat3 tL tF; simp
theorem cat3_mem {s r : UInt8} {a b p : List UInt8} (hs : s ≠ 10) (hr : r ≠ 10) (la : a.length ≤ 60) (lb : b.length ≤ 60) (hp : p ∈ (((List.range a.length).map fun i => t5 s i (a.getD i 0)) ++ midL :: ((List.range b.length).map fun i => t5 r i (b.getD i 0)))) : ∃ q, p = q ++ [10] ∧ (10 : UInt8) ∉ q := by
  rcases List.mem_append.1 hp with hp | hp
  · obtain ⟨i, hi, rfl⟩ := List.mem_map.1 hp
    have := List.mem_range.1 hi
    exact t5_line hs (by omega)
  · rcases List.mem_cons.1 hp with rfl | hp
    · exact ⟨[109, 105, 100], rfl, by decide⟩
    · obtain ⟨i, hi, rfl⟩ := List.mem_map.1 hp
      have := List.mem_range.1 hi
      exact t5_line hr (by omega)
theorem cat3_tx {s r : UInt8} {a b : List UInt8} (hs : s ≠ 10) (hr : r ≠ 10) (la : a.length ≤ 60) (lb : b.length ≤ 60) : txL (cat3 s a r b) = tX s a ++ str midL :: tX r b := by
  unfold txL
  rw [cat3_lines, lns_lines' _ fun p hp => cat3_mem hs hr la lb hp]
  simp only [tx, tX, List.map_append, List.map_cons, List.map_map]
  rfl
theorem cat3_text {s r : UInt8} {a b : List UInt8} (hs : s ≠ 0) (hr : r ≠ 0) (la : a.length ≤ 60) (lb : b.length ≤ 60) : isText (cat3 s a r b) = true := by
  refine isText_t fun h => ?_
  rw [cat3_lines] at h
  obtain ⟨p, hp, h0⟩ := List.mem_flatten.1 h
  rcases List.mem_append.1 hp with hp | hp
  · obtain ⟨i, hi, rfl⟩ := List.mem_map.1 hp
    have := List.mem_range.1 hi
    exact t5_zero hs (by omega) h0
  · rcases List.mem_cons.1 hp with rfl | hp
    · exact absurd h0 (by decide)
    · obtain ⟨i, hi, rfl⟩ := List.mem_map.1 hp
      have := List.mem_range.1 hi
      exact t5_zero hr (by omega) h0
theorem tX_head {s : UInt8} {a : List UInt8} {x : ByteArray} (h : x ∈ tX s a) : ∃ l, x = str (s :: l) := by
  obtain ⟨i, _, rfl⟩ := List.mem_map.1 h
  exact ⟨_, rfl⟩
theorem tX_nin {s r : UInt8} {a b : List UInt8} (h : s ≠ r) (hm : s ≠ 109) : ∀ x ∈ tX s a, ∀ q : UInt8, s ≠ q → ∀ c, x ∉ tX r b ++ str midL :: tX q c := fun x hx q hq c hc => by
  obtain ⟨l, rfl⟩ := tX_head hx
  rcases List.mem_append.1 hc with hc | hc
  · obtain ⟨m, he⟩ := tX_head hc
    exact h (List.cons.inj (str_inj.1 he)).1
  · rcases List.mem_cons.1 hc with hc | hc
    · exact hm (List.cons.inj (str_inj.1 hc)).1
    · obtain ⟨m, he⟩ := tX_head hc
      exact hq (List.cons.inj (str_inj.1 he)).1
theorem apart_R {f g x y : List UInt8} (lf : f.length ≤ 60) (lg : g.length ≤ 60) (lx : x.length ≤ 60) (ly : y.length ≤ 60) :
    mgE (cat3 102 f 103 g) (cat3 120 x 103 g) (cat3 102 f 121 y) = 0 ∧ mgR (cat3 102 f 103 g) (cat3 120 x 103 g) (cat3 102 f 121 y) = some (cat3 120 x 121 y) := by
  have ht : mgT (cat3 102 f 103 g) (cat3 120 x 103 g) (cat3 102 f 121 y) = true := by
    unfold mgT
    rw [cat3_text (by decide) (by decide) lf lg, cat3_text (by decide) (by decide) lx lg, cat3_text (by decide) (by decide) lf ly]; rfl
  have e1 := cat3_tx (s := 102) (r := 103) (by decide) (by decide) lf lg
  have e2 := cat3_tx (s := 120) (r := 103) (by decide) (by decide) lx lg
  have e3 := cat3_tx (s := 102) (r := 121) (by decide) (by decide) lf ly
  have e4 := cat3_tx (s := 120) (r := 121) (by decide) (by decide) lx ly
  have hb : ¬ big (txL (cat3 102 f 103 g)) (txL (cat3 120 x 103 g)) (txL (cat3 102 f 121 y)) := by
    rw [e1, e2, e3]
    unfold big
    simp only [List.length_append, List.length_cons, tX_len]
    omega
  refine ⟨by unfold mgE; rw [if_neg (fun h => hb h.2)], ?_⟩
  unfold mgR
  rw [if_pos ⟨ht, hb⟩, e1, e2, e3, mrg_apart (tX 102 f) (tX 103 g) (tX 120 x) (tX 121 y) (str midL) (fun z hz => tX_nin (by decide) (by decide) z hz 103 (by decide) g) (fun z hz => tX_nin (by decide) (by decide) z hz 103 (by decide) g)
    (fun z hz h => by
      obtain ⟨l, rfl⟩ := tX_head hz
      obtain ⟨m, he⟩ := tX_head h
      exact absurd (List.cons.inj (str_inj.1 he)).1 (by decide)), ← e4, Option.map_some, joinL_txL]
end Go.Mx
