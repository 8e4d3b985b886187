/- What merged texts are: plain facts. -/
import Derived.Test.YtafmgclhgmhflaaDoorD3R
namespace Go.Mx
open Go Go.RowKit

def big (o a b : Tx) : Prop := 200 < o.length ∨ 200 < a.length ∨ 200 < b.length
instance (o a b : Tx) : Decidable (big o a b) := by unfold big; infer_instance
def txL (l : List UInt8) : Tx := tx (lns l)
theorem txL_len (l : List UInt8) : (txL l).length = (lns l).length := tx_len _
theorem joinL_txL (l : List UInt8) : joinL (txL l) = l := by unfold txL; rw [joinL_tx, lns_flat]
def mgT (o a b : List UInt8) : Bool := isText o && isText a && isText b
/-- The error of a merge. -/
def mgE (o a b : List UInt8) : Int := if mgT o a b = true ∧ big (txL o) (txL a) (txL b) then 14 else 0
/-- What a merge makes. -/
def mgR (o a b : List UInt8) : Option (List UInt8) := if mgT o a b = true ∧ ¬ big (txL o) (txL a) (txL b) then (mrg (chk (txL o) (txL a) (txL b))).map joinL else none

/-- How many lines, and bytes, chunks have on two sides. -/
def wa (cs : List Ck) : Nat := (cs.map fun c => c.a.length + c.b.length).sum
def wj (cs : List Ck) : Nat := (cs.map fun c => (joinL c.a).length + (joinL c.b).length).sum
theorem wa_cons (c : Ck) (cs : List Ck) : wa (c :: cs) = c.a.length + c.b.length + wa cs := by simp [wa]
theorem wj_cons (c : Ck) (cs : List Ck) : wj (c :: cs) = (joinL c.a).length + (joinL c.b).length + wj cs := by simp [wj]
theorem wa_flat : ∀ cs : List Ck, wa cs = ((cs.map (·.a)).flatten).length + ((cs.map (·.b)).flatten).length
  | [] => rfl
  | c :: cs => by rw [wa_cons, wa_flat cs]; simp only [List.map_cons, List.flatten_cons, List.length_append]; omega
theorem joinL_flat : ∀ l : List Tx, (joinL l.flatten).length = (l.map fun x => (joinL x).length).sum
  | [] => rfl
  | x :: l => by rw [List.flatten_cons, joinL_app, List.length_append, joinL_flat l]; simp
theorem wj_flat : ∀ cs : List Ck, wj cs = (joinL ((cs.map (·.a)).flatten)).length + (joinL ((cs.map (·.b)).flatten)).length
  | [] => rfl
  | c :: cs => by rw [wj_cons, wj_flat cs]; simp only [List.map_cons, List.flatten_cons, joinL_app, List.length_append]; omega
theorem wa_chk (o a b : Tx) : wa (chk o a b) = a.length + b.length := by rw [wa_flat, (chk_flat o a b).2.1, (chk_flat o a b).2.2]
theorem wj_chk (o a b : Tx) : wj (chk o a b) = (joinL a).length + (joinL b).length := by rw [wj_flat, (chk_flat o a b).2.1, (chk_flat o a b).2.2]
theorem mrg_step5 {c : Ck} {cs : List Ck} {L : Tx} (h : c.k = 5) : (mrg (c :: cs)).map (fun l => L ++ l) = none := by rw [mrg, if_pos h]; rfl
theorem mrg_step3 {c : Ck} {cs : List Ck} {L : Tx} (h : c.k = 3) : (mrg (c :: cs)).map (fun l => L ++ l) = (mrg cs).map fun l => (L ++ c.b) ++ l := by
  rw [mrg, if_neg (by omega), if_pos h]; cases mrg cs <;> simp
theorem mrg_step {c : Ck} {cs : List Ck} {L : Tx} (h5 : c.k ≠ 5) (h3 : c.k ≠ 3) : (mrg (c :: cs)).map (fun l => L ++ l) = (mrg cs).map fun l => (L ++ c.a) ++ l := by
  rw [mrg, if_neg h5, if_neg h3]; cases mrg cs <;> simp
theorem chk_k (o a b : Tx) : ∀ c ∈ chk o a b, c.k ≤ 5 := by
  intro c hc
  have := ((chk_ok o a b).1 c hc).2
  rcases this with ⟨h, _⟩ | h
  · omega
  · rw [h]; unfold kin; repeat' split
    all_goals omega
end Go.Mx
