/- One line, changed by both: plain facts. -/
import Derived.Test.YtafmgclhgmhflaaDoorD3T
namespace Go.Mx
open Go Go.RowKit
def l3 (k : Nat) (x : UInt8) : List UInt8 := [UInt8.ofNat (65 + k), x, 10]
def fX (T : Nat) (x : UInt8) (n : Nat) : List UInt8 := ((List.range n).map fun k => l3 k (if k = T then x else 46)).flatten
theorem fX_succ (T : Nat) (x : UInt8) (n : Nat) : fX T x (n + 1) = fX T x n ++ l3 n (if n = T then x else 46) := by simp [fX, List.range_succ]
theorem fX_len (T : Nat) (x : UInt8) : ∀ n, (fX T x n).length = 3 * n
  | 0 => rfl
  | n + 1 => by rw [fX_succ, List.length_append, fX_len T x n]; simp [l3]; omega
theorem l3_inj {k m : Nat} {x y : UInt8} (hk : k < 100) (hm : m < 100) (h : l3 k x = l3 m y) : k = m ∧ x = y := by
  unfold l3 at h
  simp only [List.cons.injEq, and_true] at h
  have := congrArg UInt8.toNat h.1
  rw [UInt8.toNat_ofNat', UInt8.toNat_ofNat'] at this
  exact ⟨by omega, h.2⟩
theorem l3_line {k : Nat} {x : UInt8} (hk : k < 100) (hx : x ≠ 10) : ∃ q, l3 k x = q ++ [10] ∧ (10 : UInt8) ∉ q := by
  refine ⟨[UInt8.ofNat (65 + k), x], rfl, ?_⟩
  simp only [List.mem_cons, List.not_mem_nil, or_false, not_or]
  refine ⟨fun h => ?_, Ne.symm hx⟩
  have := congrArg UInt8.toNat h
  rw [UInt8.toNat_ofNat'] at this
  have h10 : (10 : UInt8).toNat = 10 := rfl
  omega
theorem fX_lns {T n : Nat} {x : UInt8} (hn : n ≤ 100) (hx : x ≠ 10) : lns (fX T x n) = (List.range n).map fun k => l3 k (if k = T then x else 46) := by
  refine lns_lines' _ fun p hp => ?_
  obtain ⟨k, hk, rfl⟩ := List.mem_map.1 hp
  have := List.mem_range.1 hk
  exact l3_line (by omega) (by split; exact hx; decide)
theorem fX_text {T n : Nat} {x : UInt8} (hn : n ≤ 100) (hx : x ≠ 0) : isText (fX T x n) = true := by
  refine isText_t fun h => ?_
  obtain ⟨p, hp, h0⟩ := List.mem_flatten.1 h
  obtain ⟨k, hk, rfl⟩ := List.mem_map.1 hp
  have hk := List.mem_range.1 hk
  unfold l3 at h0
  simp only [List.mem_cons, List.not_mem_nil, or_false] at h0
  rcases h0 with h0 | h0 | h0
  · have := congrArg UInt8.toNat h0
    rw [UInt8.toNat_ofNat'] at this
    have h00 : (0 : UInt8).toNat = 0 := rfl
    omega
  · split at h0
    · exact hx h0.symm
    · exact absurd h0 (by decide)
  · exact absurd h0 (by decide)
def bP (T : Nat) : Tx := (List.range T).map fun k => str (l3 k 46)
def bS (T n : Nat) : Tx := (List.range (n - (T + 1))).map fun k => str (l3 (T + 1 + k) 46)
theorem fX_tx {T n : Nat} {x : UInt8} (hn : n ≤ 100) (hT : T < n) (hx : x ≠ 10) : txL (fX T x n) = bP T ++ str (l3 T x) :: bS T n := by
  unfold txL tx
  rw [fX_lns hn hx, List.map_map]
  have hr : List.range n = List.range T ++ T :: (List.range (n - (T + 1))).map (fun k => T + 1 + k) := by
    have h1 : n = (T + 1) + (n - (T + 1)) := by omega
    conv => lhs; rw [h1]
    rw [List.range_add, List.range_succ, List.append_assoc]
    rfl
  rw [hr, List.map_append, List.map_cons, List.map_map]
  unfold bP bS
  congr 1
  · refine List.map_congr_left fun k hk => ?_
    have := List.mem_range.1 hk
    show str (l3 k (if k = T then x else 46)) = _
    rw [if_neg (by omega)]
  · congr 1
    · show str (l3 T (if T = T then x else 46)) = _
      rw [if_pos rfl]
    · refine List.map_congr_left fun k hk => ?_
      show str (l3 (T + 1 + k) (if T + 1 + k = T then x else 46)) = _
      rw [if_neg (by omega)]
theorem nin_bP {T : Nat} {x : UInt8} (hT : T < 100) : str (l3 T x) ∉ bP T := fun h => by
  obtain ⟨k, hk, h⟩ := List.mem_map.1 h
  have hk := List.mem_range.1 hk
  have := (l3_inj (by omega) hT (str_inj.1 h)).1
  omega
theorem nin_bS {T n : Nat} {x : UInt8} (hn : n ≤ 100) (hT : T < n) : str (l3 T x) ∉ bS T n := fun h => by
  obtain ⟨k, hk, h⟩ := List.mem_map.1 h
  have hk := List.mem_range.1 hk
  have := (l3_inj (by omega) (by omega) (str_inj.1 h)).1
  omega
theorem both_R {T n : Nat} {c d : UInt8} (hn : n ≤ 20) (hT : T < n) (c1 : c ≠ 10) (c2 : c ≠ 0) (c3 : c ≠ 46) (d1 : d ≠ 10) (d2 : d ≠ 0) (d3 : d ≠ 46) :
    mgE (fX T 46 n) (fX T c n) (fX T d n) = 0 ∧ mgR (fX T 46 n) (fX T c n) (fX T d n) = if c = d then some (fX T c n) else none := by
  have ht : mgT (fX T 46 n) (fX T c n) (fX T d n) = true := by
    unfold mgT
    rw [fX_text (by omega) (by decide), fX_text (by omega) c2, fX_text (by omega) d2]; rfl
  have hl : ∀ x : UInt8, x ≠ 10 → (txL (fX T x n)).length ≤ 20 := fun x hx => by
    rw [txL_len, fX_lns (by omega) hx]; simpa using hn
  have hb : ¬ big (txL (fX T 46 n)) (txL (fX T c n)) (txL (fX T d n)) := by
    have h1 := hl 46 (by decide)
    have h2 := hl c c1
    have h3 := hl d d1
    unfold big; omega
  refine ⟨by unfold mgE; rw [if_neg (fun h => hb h.2)], ?_⟩
  unfold mgR
  rw [if_pos ⟨ht, hb⟩]
  have hm : mrg (chk (txL (fX T 46 n)) (txL (fX T c n)) (txL (fX T d n))) = if c = d then some (txL (fX T c n)) else none := by
    rw [fX_tx (by omega) hT (by decide), fX_tx (by omega) hT c1, fX_tx (by omega) hT d1]
    have := mrg_both (bP T) (bS T n) (str (l3 T 46)) (str (l3 T c)) (str (l3 T d)) (nin_bP (by omega)) (nin_bS (by omega) hT) (nin_bP (by omega)) (nin_bS (by omega) hT) (nin_bP (by omega)) (nin_bS (by omega) hT)
      (fun h => c3 (l3_inj (by omega) (by omega) (str_inj.1 h)).2.symm) (fun h => d3 (l3_inj (by omega) (by omega) (str_inj.1 h)).2.symm)
    rw [this]
    by_cases hcd : c = d
    · subst hcd; rw [if_pos rfl, if_pos rfl]
    · rw [if_neg hcd, if_neg (fun h => hcd (l3_inj (by omega) (by omega) (str_inj.1 h)).2)]
  rw [hm]
  by_cases hcd : c = d
  · rw [if_pos hcd, if_pos hcd, Option.map_some, joinL_txL]
  · rw [if_neg hcd, if_neg hcd]; rfl
end Go.Mx
