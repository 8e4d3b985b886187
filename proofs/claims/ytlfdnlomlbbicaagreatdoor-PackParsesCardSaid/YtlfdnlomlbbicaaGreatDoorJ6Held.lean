/- A region that draws its order and whose last operations write what its first ones read: what is read is held up to operation number t, for which all readings are waited. marlaw10's Few; a text's name. Packs: the plain mathematics of reading one (no program in sight). -/
import Derived.Test.YtlfdnlomlbbicaaGreatDoorJ5RegC
import Derived.OrdersHeld
import Derived.StillTail
import Derived.Deep.RegionHeld3
import Derived.Test.YtlfdnlomlbbicaaGreatDoorJ3HexP
import Derived.Test.YtlfdnlomlbbicaaGreatDoorJ2ShaP
import Derived.Test.YtlfdnlomlbbicaaGreatDoorJ4Lib3
namespace Go.Mx
open Go Go.RowKit

section
variable {P : Program} {md : Region.Mode} {ops : Array Oper} {Q : Exit → Act → World → Prop} {t : Nat} {S : World → Prop}

def wpAnyS (P : Program) (md : Region.Mode) (ops : Array Oper) (Q : Exit → Act → World → Prop) (t : Nat) (S : World → Prop) : Nat → Array Bool → Act → World → Prop
  | 0, listed, a, w => Region.ready md ops listed = [] ∧ Q .normal a w
  | fuel + 1, listed, a, w =>
    (Region.ready md ops listed = [] → Q .normal a w) ∧
    ∀ i ∈ Region.ready md ops listed, wpOp P ops Q i (fun a' w' => ((listed.setIfInBounds i true).getD t true = false → S w') ∧ wpAnyS P md ops Q t S fuel (listed.setIfInBounds i true) a' w') a w

theorem wpAny_of_S : ∀ (fuel : Nat) (listed : Array Bool) (a : Act) (w : World), wpAnyS P md ops Q t S fuel listed a w → wpAny P md ops Q fuel listed a w
  | 0, _, _, _, h => h
  | fuel + 1, _, _, _, h => ⟨h.1, fun i hi => wpOp_mono (fun a' w' h' => wpAny_of_S fuel _ a' w' h'.2) (h.2 i hi)⟩

theorem getD_set_self {listed : Array Bool} {i j : Nat} (h : i ≠ j) : (listed.setIfInBounds i true).getD j true = listed.getD j true := getD_set_ne true h

theorem wpAnyS_first {i : Nat} {oi : Oper} {v : Value} (hi : ops[i]? = some oi) (hsel : ∀ (j : Nat) (o : Oper) cs b, ops[j]? = some o → o.op ≠ .select cs b)
    (hit : i ≠ t) (hwt : Region.waitsFor md ops t i = true)
    (hQ : ∀ c a w, Q (.panic c) (a.put oi.dst v) w → Q (.panic c) a w) :
    ∀ (fuel : Nat) (listed : Array Bool) (a : Act) (w : World),
      (∀ j oj, ops[j]? = some oj → j ≠ i → listed.getD j true = false → (∀ e ∈ oj.after, Region.binds md e = true → e.on ≠ i) → oi.apart ops oj = true) →
      i ∈ Region.ready md ops listed → listed.getD t true = false → YieldsIf P ops S oi v a → S w →
      wpAnyS P md ops Q t S fuel (listed.setIfInBounds i true) (a.put oi.dst v) w → wpAnyS P md ops Q t S (fuel + 1) listed a w := by
  intro fuel
  induction fuel with
  | zero =>
    intro listed a w _ hr _ hy hS H
    refine ⟨fun h => (by rw [h] at hr; cases hr), fun j hj => ?_⟩
    by_cases hji : j = i
    · subst hji; exact hy.wpOp hi hS ⟨fun _ => hS, H⟩
    · have := ready_mono hj hji
      rw [H.1] at this
      cases this
  | succ fuel ih =>
    intro listed a w hfree hr hlt hy hS H
    refine ⟨fun h => (by rw [h] at hr; cases hr), fun j hj => ?_⟩
    by_cases hji : j = i
    · subst hji; exact hy.wpOp hi hS ⟨fun _ => hS, H⟩
    · have h1 := H.2 j (ready_mono hj hji)
      obtain ⟨hjun, oj, hoj, hall⟩ := mem_ready.1 hj
      have hi0 := (mem_ready.1 hr).1
      have hi1 : listed.getD i false = false := by
        rcases Nat.lt_or_ge i listed.size with h' | h'
        · simp [h'] at hi0 ⊢; exact hi0
        · simp [Array.getElem?_eq_none h'] at hi0
      have hnot : ∀ e ∈ oj.after, Region.binds md e = true → e.on ≠ i := fun e he hb heq => by
        have h1 := hall e he hb
        rw [heq, hi1] at h1
        cases h1
      have hjt : j ≠ t := by
        rintro rfl
        obtain ⟨ot, hot, e, he, hb, hon⟩ := Region.waitsFor_spec hwt
        obtain rfl : ot = oj := Option.some.inj (hot.symm.trans hoj)
        exact hnot e he hb hon
      have h2 := wpOp_putIf hoj (hfree j oj hoj hji hjun hnot) (fun cs b => hsel i oi cs b hi) (fun cs b => hsel j oj cs b hoj) hQ hy h1
      have hfree' : ∀ k ok, ops[k]? = some ok → k ≠ i → (listed.setIfInBounds j true).getD k true = false →
          (∀ e ∈ ok.after, Region.binds md e = true → e.on ≠ i) → oi.apart ops ok = true := fun k ok hk hki hun hno => by
        refine hfree k ok hk hki ?_ hno
        by_cases hjk : j = k
        · subst hjk; exact hjun
        · rw [getD_set_ne true hjk] at hun; exact hun
      have hlt' : (listed.setIfInBounds j true).getD t true = false := by rw [getD_set_ne true hjt]; exact hlt
      refine wpOp_mono (fun a' w' h3 => ?_) h2
      obtain ⟨h3y, h3S, h3w⟩ := h3
      have hSw : S w' := h3S (by rw [getD_set_ne true hjt, getD_set_ne true hit]; exact hlt)
      refine ⟨fun _ => hSw, ih (listed.setIfInBounds j true) a' w' hfree' (ready_mono hr (Ne.symm hji)) hlt' h3y hSw ?_⟩
      rw [Array.setIfInBounds_comm _ _ hji]
      exact h3w

/-- Take number i first. -/
theorem wpAnyS_take {i : Nat} {oi : Oper} {v : Value} {fuel : Nat} {listed : Array Bool} {a : Act} {w : World} (hi : ops[i]? = some oi)
    (hs : Region.noSelect ops = true) (hf : Region.free md ops listed i = true) (hr : (Region.ready md ops listed).contains i = true) (hwt : Region.waitsFor md ops t i = true) (hit : (i != t) = true) (hlt : listed.getD t true = false)
    (hQ : ∀ c a w, Q (.panic c) (a.put oi.dst v) w → Q (.panic c) a w) (hy : YieldsIf P ops S oi v a) (hS : S w)
    (h : wpAnyS P md ops Q t S fuel (listed.setIfInBounds i true) (a.put oi.dst v) w) : wpAnyS P md ops Q t S (fuel + 1) listed a w :=
  wpAnyS_first hi (Region.noSelect_spec hs) (by simpa using hit) hwt hQ fuel listed a w (Region.free_spec hi hf) (by simpa using hr) hlt hy hS h

def AllS (P : Program) (md : Region.Mode) (ops : Array Oper) (Q : Exit → Act → World → Prop) (t : Nat) (S : World → Prop) (fuel : Nat) (listed : Array Bool) (a : Act) (w : World) (rs : List Nat) : Prop :=
  ∀ i ∈ rs, wpOp P ops Q i (fun a' w' => ((listed.setIfInBounds i true).getD t true = false → S w') ∧ wpAnyS P md ops Q t S fuel (listed.setIfInBounds i true) a' w') a w
theorem AllS.nil {fuel : Nat} {listed : Array Bool} {a : Act} {w : World} : AllS P md ops Q t S fuel listed a w [] := fun _ h => by cases h
theorem AllS.cons {fuel : Nat} {listed : Array Bool} {a : Act} {w : World} {i : Nat} {o : Oper} {rs : List Nat} (ho : ops[i]? = some o)
    (h : ∀ K' : Act → World → Prop, Hid (∀ a w, S w → (S w → wpAnyS P md ops Q t S fuel (listed.setIfInBounds i true) a w) → K' a w) → if Region.wanted o (yielded ops a.tmps) = true then Oper.wp P o a w K' Q else K' (a.put o.dst undef) w)
    (hs : AllS P md ops Q t S fuel listed a w rs) : AllS P md ops Q t S fuel listed a w (i :: rs) := fun j hj => by
  rcases List.mem_cons.1 hj with rfl | hj
  · unfold wpOp
    rw [ho]
    have := h (fun a' w' => ((listed.setIfInBounds j true).getD t true = false → S w') ∧ wpAnyS P md ops Q t S fuel (listed.setIfInBounds j true) a' w') (fun a w hS hw => ⟨fun _ => hS, hw hS⟩)
    simp only []
    split
    · rename_i hwd; rw [if_pos hwd] at this; exact .inl this
    · rename_i hwd; rw [if_neg hwd] at this; exact this
  · exact hs j hj
theorem wpAnyS_ready {rs : List Nat} {fuel : Nat} {listed : Array Bool} {a : Act} {w : World} (hr : Region.ready md ops listed = rs) (hne : rs ≠ [])
    (h : AllS P md ops Q t S fuel listed a w rs) : wpAnyS P md ops Q t S (fuel + 1) listed a w :=
  ⟨fun h0 => absurd (hr ▸ h0) hne, hr ▸ h⟩
theorem wp_region_S (t : Nat) (S : World → Prop) {id : Nat} {a : Act} {w : World} (hm : P.follows .mixedOrders = true)
    (hS : S w.drew) (h : S w.drew → wpAnyS P .any ops Q t S ops.size (Array.replicate ops.size false) a w.drew) : (Code.region id ops true).wp P Q a w :=
  wp_region_any hm (wpAny_of_S _ _ _ _ (h hS))

theorem wpAnyS_of_seq : ∀ (l : List Oper) (k : Nat) (listed : Array Bool) (a : Act) (w : World), (∀ j, l[j]? = ops[k + j]?) →
    Region.seqB md ops l.length k listed = true → listed.getD t true = true ∨ k = t → wpList P ops Q l a w → wpAnyS P md ops Q t S l.length listed a w
  | [], _, _, _, _, _, hB, _, h => ⟨by simpa [Region.seqB] using hB, h⟩
  | o :: l, k, listed, a, w, hl, hB, hk, h => by
    have h0 : ops[k]? = some o := by simpa using (hl 0).symm
    simp only [List.length_cons, Region.seqB, Bool.and_eq_true, decide_eq_true_eq] at hB
    have ht : (listed.setIfInBounds k true).getD t true = true := by
      by_cases hkt : k = t
      · subst hkt
        rcases Nat.lt_or_ge k listed.size with h' | h'
        · simp [h']
        · simp [Array.getElem?_eq_none (show (listed.setIfInBounds k true).size ≤ k by simpa using h')]
      · rw [getD_set_ne true hkt]
        exact hk.resolve_right hkt
    refine ⟨fun h1 => (by rw [hB.1] at h1; cases h1), fun i hi => ?_⟩
    rw [hB.1] at hi
    obtain rfl : i = k := by simpa using hi
    have hw : wpOp P ops Q i (wpList P ops Q l) a w := by unfold wpOp; simp only [h0]; exact h
    exact wpOp_mono (fun a' w' h' => ⟨fun hf => (by rw [ht] at hf; cases hf), wpAnyS_of_seq l (i + 1) _ a' w' (fun j => by have := hl (j + 1); simpa [Nat.add_assoc, Nat.add_comm 1 j] using this) hB.2 (.inl ht) h'⟩) hw
/-- What is left is a list. -/
theorem wpAnyS_seq {l : List Oper} {fuel : Nat} {listed : Array Bool} {a : Act} {w : World} (hf : (l.drop t).length = fuel) (hB : Region.seqB md l.toArray fuel t listed = true)
    (h : wpList P l.toArray Q (l.drop t) a w) : wpAnyS P md l.toArray Q t S fuel listed a w := by
  subst hf
  exact wpAnyS_of_seq (l.drop t) t listed a w (fun j => by simp [List.getElem?_drop]) hB (.inr rfl) h
/-- The same moves over a list of operations. -/
theorem wpAnyS_takeL {l : List Oper} {i : Nat} {oi : Oper} {v : Value} {fuel : Nat} {listed : Array Bool} {a : Act} {w : World} (hi : l[i]? = some oi)
    (hs : Region.noSelect l.toArray = true) (hf : Region.free md l.toArray listed i = true) (hr : (Region.ready md l.toArray listed).contains i = true) (hwt : Region.waitsFor md l.toArray t i = true) (hit : (i != t) = true) (hlt : listed.getD t true = false)
    (hQ : ∀ c a w, Q (.panic c) (a.put oi.dst v) w → Q (.panic c) a w) (hy : YieldsIf P l.toArray S oi v a) (hS : S w)
    (h : wpAnyS P md l.toArray Q t S fuel (listed.setIfInBounds i true) (a.put oi.dst v) w) : wpAnyS P md l.toArray Q t S (fuel + 1) listed a w :=
  wpAnyS_take (by simpa using hi) hs hf hr hwt hit hlt hQ hy hS h
theorem AllS.consL {l : List Oper} {fuel : Nat} {listed : Array Bool} {a : Act} {w : World} {i : Nat} {o : Oper} {rs : List Nat} (ho : l[i]? = some o)
    (h : ∀ K' : Act → World → Prop, Hid (∀ a w, S w → (S w → wpAnyS P md l.toArray Q t S fuel (listed.setIfInBounds i true) a w) → K' a w) → if Region.wanted o (yielded l.toArray a.tmps) = true then Oper.wp P o a w K' Q else K' (a.put o.dst undef) w)
    (hs : AllS P md l.toArray Q t S fuel listed a w rs) : AllS P md l.toArray Q t S fuel listed a w (i :: rs) := AllS.cons (by simpa using ho) h hs
/-- An operation that yields in whatever world may be taken first, though number t does not wait for it. -/
theorem wpAnyS_firstW {i : Nat} {oi : Oper} {v : Value} (hi : ops[i]? = some oi) (hsel : ∀ (j : Nat) (o : Oper) cs b, ops[j]? = some o → o.op ≠ .select cs b) (hit : i ≠ t)
    (hQ : ∀ c a w, Q (.panic c) (a.put oi.dst v) w → Q (.panic c) a w) :
    ∀ (fuel : Nat) (listed : Array Bool) (a : Act) (w : World),
      (∀ j oj, ops[j]? = some oj → j ≠ i → listed.getD j true = false → (∀ e ∈ oj.after, Region.binds md e = true → e.on ≠ i) → oi.apart ops oj = true) →
      i ∈ Region.ready md ops listed → YieldsIf P ops (fun _ => True) oi v a → (listed.getD t true = false → S w) →
      wpAnyS P md ops Q t S fuel (listed.setIfInBounds i true) (a.put oi.dst v) w → wpAnyS P md ops Q t S (fuel + 1) listed a w := by
  intro fuel
  induction fuel with
  | zero =>
    intro listed a w _ hr hy hS H
    refine ⟨fun h => (by rw [h] at hr; cases hr), fun j hj => ?_⟩
    by_cases hji : j = i
    · subst hji; exact hy.wpOp hi trivial ⟨fun h => hS (by rwa [getD_set_ne true hit] at h), H⟩
    · have := ready_mono hj hji
      rw [H.1] at this
      cases this
  | succ fuel ih =>
    intro listed a w hfree hr hy hS H
    refine ⟨fun h => (by rw [h] at hr; cases hr), fun j hj => ?_⟩
    by_cases hji : j = i
    · subst hji; exact hy.wpOp hi trivial ⟨fun h => hS (by rwa [getD_set_ne true hit] at h), H⟩
    · have h1 := H.2 j (ready_mono hj hji)
      obtain ⟨hjun, oj, hoj, hall⟩ := mem_ready.1 hj
      have hi0 := (mem_ready.1 hr).1
      have hi1 : listed.getD i false = false := by
        rcases Nat.lt_or_ge i listed.size with h' | h'
        · simp [h'] at hi0 ⊢; exact hi0
        · simp [Array.getElem?_eq_none h'] at hi0
      have hnot : ∀ e ∈ oj.after, Region.binds md e = true → e.on ≠ i := fun e he hb heq => by
        have h1 := hall e he hb
        rw [heq, hi1] at h1
        cases h1
      have h2 := wpOp_putIf hoj (hfree j oj hoj hji hjun hnot) (fun cs b => hsel i oi cs b hi) (fun cs b => hsel j oj cs b hoj) hQ hy h1
      have hfree' : ∀ k ok, ops[k]? = some ok → k ≠ i → (listed.setIfInBounds j true).getD k true = false →
          (∀ e ∈ ok.after, Region.binds md e = true → e.on ≠ i) → oi.apart ops ok = true := fun k ok hk hki hun hno => by
        refine hfree k ok hk hki ?_ hno
        by_cases hjk : j = k
        · subst hjk; exact hjun
        · rw [getD_set_ne true hjk] at hun; exact hun
      refine wpOp_mono (fun a' w' h3 => ?_) h2
      obtain ⟨h3y, h3S, h3w⟩ := h3
      have hSw : (listed.setIfInBounds j true).getD t true = false → S w' := fun h => h3S (by rw [Array.setIfInBounds_comm _ _ (Ne.symm hji), getD_set_ne true hit]; exact h)
      refine ⟨hSw, ih (listed.setIfInBounds j true) a' w' hfree' (ready_mono hr (Ne.symm hji)) h3y hSw ?_⟩
      rw [Array.setIfInBounds_comm _ _ hji]
      exact h3w
theorem wpAnyS_takeW {l : List Oper} {i : Nat} {oi : Oper} {v : Value} {fuel : Nat} {listed : Array Bool} {a : Act} {w : World} (hi : l[i]? = some oi)
    (hs : Region.noSelect l.toArray = true) (hf : Region.free md l.toArray listed i = true) (hr : (Region.ready md l.toArray listed).contains i = true) (hit : (i != t) = true)
    (hQ : ∀ c a w, Q (.panic c) (a.put oi.dst v) w → Q (.panic c) a w) (hy : YieldsIf P l.toArray (fun _ => True) oi v a) (hS : S w)
    (h : wpAnyS P md l.toArray Q t S fuel (listed.setIfInBounds i true) (a.put oi.dst v) w) : wpAnyS P md l.toArray Q t S (fuel + 1) listed a w :=
  wpAnyS_firstW (by simpa using hi) (Region.noSelect_spec hs) (by simpa using hit) hQ fuel listed a w (Region.free_spec (by simpa using hi) hf) (by simpa using hr) hy (fun _ => hS) h
end
theorem St.rot {w0 w : World} {r : Row} {R : List Row} {Q : List Rd} (h : St w0 w (r :: R) Q) : St w0 w (R ++ [r]) Q := h.perm (List.perm_append_comm (l₁ := [r]) (l₂ := R))
end Go.Mx

namespace Go.Mx
open Go Go.RowKit
/-- A text's name. -/
def idB (b : List UInt8) : ByteArray := str (hexL (sha b))
end Go.Mx
namespace Go.Proofs.YtlfdnlomlbbicaaGreatDoor
open Go.RowKit Go.Mx

def Few10Post (l : List (List UInt8)) (w : World) (e : Ending) (w' : World) : Prop :=
  ∃ b : Bool, e = .returned (.bool b) ∧ St w w' [] [] ∧ (b = true → l.length ≤ 40 ∧ (∀ x ∈ l, x.length ≤ 1500) ∧ (l.map List.length).sum ≤ 6000)
set_option maxRecDepth 100000 in
theorem few10_any (v : Value) (l : List (List UInt8)) (w : World) (hv : LL w v l) (hz : ∀ x ∈ l, x.length ≤ 140737488355328) :
    Calls Tryz.prog 6 #[v] w (Few10Post l w) := by
  obtain ⟨ao, cap, blk, off, us, rfl, h1, h2, hc, hs⟩ := hv.at
  have HC := Mx.hid (fun k hk => (⟨(hc k hk).1, (hc k hk).2⟩ : ao = some ⟨blk, off, none⟩ ∧ w.cell? ⟨blk, off + k, none⟩ = some (us k)))
  have HS := Mx.hid hs
  have HZ := Mx.hid (fun (k : Nat) (hk : k < l.length) => hz l[k] (List.getElem_mem hk))
  clear hv hc hs hz
  go_enter Tryz.func6, Tryz.ntmps6
  go_wp2_with fail
  go_loopw [3, 4] (fun x y wr => ∃ (n : Int) (i : Nat), x = .int .i64 n ∧ 0 ≤ n ∧ n ≤ 24000 ∧ i ≤ l.length ∧ i ≤ 40 ∧ y = .int .i64 i ∧ Hid (n = ((min ((l.take i).map List.length).sum 24000 : Nat) : Int)) ∧ Hid (∀ x ∈ l.take i, x.length ≤ 1500) ∧ St w wr [] []) (fun _ y _ => l.length - (intOf y).toNat)
  case atStart => exact ⟨0, 0, rfl, by omega, by omega, by omega, by omega, rfl, Mx.hid (by simp), Mx.hid (by simp), St.refl w⟩
  case round =>
    obtain ⟨n, i, rfl, hn0, hn1, hi, hi4, rfl, HN, HA, hs⟩ := hrel
    by_cases hlt : i < l.length ∧ i < 40
    · obtain ⟨hlt, hlt4⟩ := hlt
      obtain ⟨rfl, c0⟩ := HC.out i hlt
      have hx := HS.out i hlt
      have hzl := HZ.out i hlt
      obtain ⟨xo, xc, hu, xl, xm, _⟩ := id hx
      replace c0 := hs.keep c0
      rw [hu] at c0
      have HTS := Mx.hid (show ((l.take (i + 1)).map List.length).sum = ((l.take i).map List.length).sum + l[i].length by rw [List.take_succ_eq_append_getElem hlt, List.map_append, List.sum_append]; simp)
      have HTA := Mx.hid (fun (h : l[i].length ≤ 1500) => (show ∀ x ∈ l.take (i + 1), x.length ≤ 1500 by
        rw [List.take_succ_eq_append_getElem hlt]
        intro x hx
        rcases List.mem_append.1 hx with hx | hx
        · exact HA.out x hx
        · rw [List.mem_singleton.1 hx]; exact h))
      have q1 : decide ((i : Int) < 40) = true := decide_eq_true (by omega)
      have q2 : decide (i < 40) = true := decide_eq_true (by omega)
      unfold maxLen at xm
      clear hx hu
      generalize l[i].length = z at *
      by_cases hz : 1500 < z
      · have q3 : decide ((1500 : Int) < (z : Int)) = true := decide_eq_true (by omega)
        have q4 : decide (1500 < z) = true := decide_eq_true hz
        go_wp2_with (first | ((with_reducible show wpList _ _ _ _ _ _); refine wpl_want rfl ?_))
        all_goals
          go_ret
          exact ⟨false, rfl, hs, fun h => by cases h⟩
      · have q3 : decide ((1500 : Int) < (z : Int)) = false := decide_eq_false (by omega)
        have q4 : decide (1500 < z) = false := decide_eq_false hz
        go_wp2_with (first | ((with_reducible show wpList _ _ _ _ _ _); refine wpl_want rfl ?_))
        go_roundw
        case rel => exact ⟨_, i + 1, rfl, by omega, by omega, by omega, by omega, by go_num, Mx.hid (by have h1 := HN.out; rw [HTS.out]; omega), Mx.hid (HTA.out (by omega)), hs⟩
        case measure => simp [intOf]; omega
    · by_cases hp : i < l.length
      · have q1 : decide ((i : Int) < 40) = false := decide_eq_false (by omega)
        have q2 : decide (i < 40) = false := decide_eq_false (by omega)
        have q5 : decide ((l.length : Int) ≤ 40) = false := decide_eq_false (by omega)
        have q6 : decide (l.length ≤ 40) = false := decide_eq_false (by omega)
        clear hlt hi
        go_wp2_with (first | ((with_reducible show wpList _ _ _ _ _ _); refine wpl_want rfl ?_))
        go_ret
        exact ⟨false, rfl, hs, fun h => by cases h⟩
      · have q3 : decide ((i : Int) < (l.length : Int)) = false := decide_eq_false (by omega)
        have q4 : decide (i < l.length) = false := decide_eq_false (by omega)
        have HT := Mx.hid (show l.take i = l from List.take_of_length_le (by omega))
        have q5 : decide ((l.length : Int) ≤ 40) = true := decide_eq_true (by omega)
        have q6 : decide (l.length ≤ 40) = true := decide_eq_true (by omega)
        have HL := Mx.hid (show l.length ≤ 40 by omega)
        clear hlt hi
        by_cases h6 : n ≤ 6000
        · have q7 : decide (n ≤ 6000) = true := decide_eq_true h6
          have H6 := Mx.hid h6
          clear h6
          go_wp2_with (first | ((with_reducible show wpList _ _ _ _ _ _); refine wpl_want rfl ?_))
          go_ret
          refine ⟨true, rfl, hs, fun _ => ⟨HL.out, ?_, ?_⟩⟩
          · have := HA.out; rwa [HT.out] at this
          · have h1 := HN.out
            have h2 := H6.out
            rw [HT.out] at h1
            omega
        · have q7 : decide (n ≤ 6000) = false := decide_eq_false h6
          clear h6
          go_wp2_with (first | ((with_reducible show wpList _ _ _ _ _ _); refine wpl_want rfl ?_))
          go_ret
          exact ⟨false, rfl, hs, fun h => by cases h⟩
end Go.Proofs.YtlfdnlomlbbicaaGreatDoor

namespace Go.Mx
open Go Go.RowKit

abbrev Got := Int × List UInt8 × Nat × List UInt8
def gBad (e : Int) : Got := (e, [], 0, [])
/-- What is told by another one: what was wrong, the object, its depth, what is left. -/
def rdDel (by_ : List UInt8) (d : Nat) (r : List UInt8) : Got :=
  if nmE r ≠ 0 then gBad (nmE r)
  else if (r.drop (nmJ r)).length < nmN r then gBad 2
  else if (apR by_ ((r.drop (nmJ r)).take (nmN r))).1 ≠ 0 then gBad (apR by_ ((r.drop (nmJ r)).take (nmN r))).1
  else (0, (apR by_ ((r.drop (nmJ r)).take (nmN r))).2, d, (r.drop (nmJ r)).drop (nmN r))
def rdWhole (r : List UInt8) : Got :=
  if nmE r ≠ 0 then gBad (nmE r)
  else if 20000 < nmN r then gBad 3
  else if (r.drop (nmJ r)).length < nmN r then gBad 2
  else (0, (r.drop (nmJ r)).take (nmN r), 0, (r.drop (nmJ r)).drop (nmN r))
def rdBack (pre : List (List UInt8 × Nat)) (r : List UInt8) : Got :=
  if nmE r ≠ 0 then gBad (nmE r)
  else if nmN r < 1 ∨ pre.length < nmN r then gBad 7
  else if 8 ≤ (pre.getD (pre.length - nmN r) ([], 0)).2 then gBad 14
  else rdDel (pre.getD (pre.length - nmN r) ([], 0)).1 ((pre.getD (pre.length - nmN r) ([], 0)).2 + 1) (r.drop (nmJ r))
def rdFar (f : ByteArray → Option (List UInt8)) (r : List UInt8) : Got :=
  if r.length < 32 then gBad 2
  else match f (str (hexL (r.take 32))) with
    | none => gBad 7
    | some x => if idB x ≠ str (hexL (r.take 32)) then gBad 5 else rdDel x 1 (r.drop 32)
def rdOne (f : ByteArray → Option (List UInt8)) (pre : List (List UInt8 × Nat)) : List UInt8 → Got
  | [] => gBad 2
  | k :: r => if k = 0 then rdWhole r else if k = 1 then rdBack pre r else if k = 2 then rdFar f r else gBad 4
def rdObj (f : ByteArray → Option (List UInt8)) (pre : List (List UInt8 × Nat)) (r : List UInt8) : Got :=
  if (rdOne f pre r).1 ≠ 0 then rdOne f pre r else if (decO (rdOne f pre r).2.1).2 ≠ 0 then gBad 4 else rdOne f pre r
/-- All of them: what was wrong, what was read, where each stood. -/
def rdAll (f : ByteArray → Option (List UInt8)) (len : Nat) : Nat → List (List UInt8 × Nat) → List Nat → List UInt8 → Int × List (List UInt8 × Nat) × List Nat
  | 0, pre, pl, r => (if r = [] then 0 else 3, pre, pl)
  | n + 1, pre, pl, r => if (rdObj f pre r).1 ≠ 0 then ((rdObj f pre r).1, pre, pl) else rdAll f len n (pre ++ [((rdObj f pre r).2.1, (rdObj f pre r).2.2.1)]) (pl ++ [len - r.length]) (rdObj f pre r).2.2.2
/-- A pack, without its sum. -/
def rdBody (f : ByteArray → Option (List UInt8)) (b : List UInt8) : Int × List (List UInt8 × Nat) × List Nat :=
  if b.take 3 ≠ [77, 80, 49] then (4, [], [])
  else if nmE (b.drop 3) ≠ 0 then (nmE (b.drop 3), [], [])
  else if 512 < nmN (b.drop 3) then (14, [], [])
  else rdAll f b.length (nmN (b.drop 3)) [] [] ((b.drop 3).drop (nmJ (b.drop 3)))
def rdPack (f : ByteArray → Option (List UInt8)) (b : List UInt8) : Int × List (List UInt8 × Nat) × List Nat :=
  if b.length < 36 then (2, [], [])
  else if sha (b.take (b.length - 32)) ≠ b.drop (b.length - 32) then (5, [], [])
  else rdBody f (b.take (b.length - 32))

theorem rdDel_put {by_ x r : List UInt8} {d : Nat} (hb : by_.length ≤ 20000) (hx : x.length ≤ 20000) (hm : (makeR by_ x).length ≤ 20000) : rdDel by_ d (putL (makeR by_ x).length ++ (makeR by_ x ++ r)) = (0, x, d, r) := by
  obtain ⟨h1, h2, h3⟩ := nm_put (n := (makeR by_ x).length) (by omega) (makeR by_ x ++ r)
  have h4 := nm_drop (n := (makeR by_ x).length) (by omega) (makeR by_ x ++ r)
  unfold rdDel
  rw [h3, h4, h1, if_neg (by simp), if_neg (by simp), List.take_left, List.drop_left, ap_make by_ x hb hx, if_neg (by simp)]
theorem rdWhole_put {x r : List UInt8} (hx : x.length ≤ 20000) : rdWhole (putL x.length ++ (x ++ r)) = (0, x, 0, r) := by
  obtain ⟨h1, h2, h3⟩ := nm_put (n := x.length) (by omega) (x ++ r)
  have h4 := nm_drop (n := x.length) (by omega) (x ++ r)
  unfold rdWhole
  rw [h3, h4, h1, if_neg (by simp), if_neg (by omega), if_neg (by simp), List.take_left, List.drop_left]
/-- What was written is read. -/
theorem rdOne_ent {f : ByteArray → Option (List UInt8)} {pre : List (List UInt8 × Nat)} {x : List UInt8} (hp : ∀ p ∈ pre, p.1.length ≤ 20000) (hx : x.length ≤ 20000) (hl : pre.length ≤ 20000) (r : List UInt8) : rdOne f pre ((entP pre x).1 ++ r) = (0, x, (entP pre x).2, r) := by
  have hw : rdOne f pre (whP x ++ r) = (0, x, 0, r) := by
    show rdOne f pre (0 :: ((putL x.length ++ x) ++ r)) = _
    rw [rdOne, if_pos rfl, List.append_assoc, rdWhole_put hx]
  by_cases h : nearN pre x = 0
  · rw [ent_0 h]; exact hw
  · obtain ⟨⟨b, d⟩, hb, h1, h2⟩ := nearN_ok h
    by_cases hm : (makeR b x).length < x.length
    · rw [ent_1 rfl h hb hm]
      simp only [List.cons_append, List.append_assoc]
      rw [rdOne, if_neg (by decide), if_pos rfl]
      have hn := nearN_le pre x
      obtain ⟨k1, k2, k3⟩ := nm_put (n := nearN pre x) (by omega) (putL (makeR b x).length ++ (makeR b x ++ r))
      have k4 := nm_drop (n := nearN pre x) (by omega) (putL (makeR b x).length ++ (makeR b x ++ r))
      have hg : pre.getD (pre.length - nearN pre x) ([], 0) = (b, d) := by rw [List.getD_eq_getElem?_getD, hb]; rfl
      unfold rdBack
      rw [k3, k1, k4, hg, if_neg (by simp), if_neg (by omega), if_neg (by simp only at h2 ⊢; omega)]
      show rdDel b (d + 1) _ = _
      exact rdDel_put (hp (b, d) (List.mem_of_getElem? hb)) hx (by omega)
    · rw [ent_2 rfl h hb hm]; exact hw
/-- The places at which they stand. -/
def plA (off : Nat) : List (List UInt8) → List Nat
  | l => (List.range l.length).map fun i => off + (pkAll (l.take i)).1.length
theorem rdAll_pk {f : ByteArray → Option (List UInt8)} {l : List (List UInt8)} (hx : ∀ x ∈ l, x.length ≤ 20000) (hd : ∀ x ∈ l, (decO x).2 = 0) (hl : l.length ≤ 20000) (len : Nat) : ∀ (n i : Nat), i + n = l.length → ∀ pl r, (pkAll (l.take i)).1 ++ r = (pkAll l).1 →
    ∃ pl', rdAll f len n (pkAll (l.take i)).2 pl r = (0, (pkAll l).2, pl ++ pl') ∧ pl'.length = n ∧ ∀ (j : Nat) (q : Nat), pl'[j]? = some q → q = len - ((pkAll l).1.length - (pkAll (l.take (i + j))).1.length)
  | 0, i, hi, pl, r, hr => by
    have hli : l.take i = l := List.take_of_length_le (by omega)
    rw [hli] at hr ⊢
    have hr0 : r = [] := by simpa using hr
    exact ⟨[], by rw [rdAll, if_pos hr0]; simp, rfl, fun j q h => by cases h⟩
  | n + 1, i, hi, pl, r, hr => by
    have hlt : i < l.length := by omega
    have hst := pk_take hlt
    -- what is left begins with entry i
    have hall : ∃ r2, r = (entP (pkAll (l.take i)).2 l[i]).1 ++ r2 ∧ (pkAll (l.take (i + 1))).1 ++ r2 = (pkAll l).1 := by
      have : ∀ m, i + 1 ≤ m → m ≤ l.length → ∃ t, (pkAll (l.take m)).1 = (pkAll (l.take (i + 1))).1 ++ t := by
        intro m
        induction m with
        | zero => intro h; omega
        | succ m ih =>
          intro h1 h2
          by_cases he : m = i
          · subst he; exact ⟨[], by simp⟩
          · obtain ⟨t, ht⟩ := ih (by omega) (by omega)
            rw [pk_take (show m < l.length by omega), pkStep]
            exact ⟨t ++ _, by rw [ht, List.append_assoc]⟩
      obtain ⟨t, ht⟩ := this l.length (by omega) (Nat.le_refl _)
      rw [List.take_length] at ht
      refine ⟨t, ?_, ht.symm⟩
      rw [ht, hst, pkStep, List.append_assoc] at hr
      exact List.append_cancel_left hr
    obtain ⟨r2, rfl, h2⟩ := hall
    have hpre : ∀ p ∈ (pkAll (l.take i)).2, p.1.length ≤ 20000 := by
      intro p hp
      have h3 : p.1 ∈ l.take i := by rw [← pk_fst (l.take i)]; exact List.mem_map.2 ⟨p, hp, rfl⟩
      exact hx _ (List.mem_of_mem_take h3)
    have hone := rdOne_ent (f := f) hpre (hx _ (List.getElem_mem hlt)) (by rw [pk_len, List.length_take]; omega) r2
    have hobj : rdObj f (pkAll (l.take i)).2 ((entP (pkAll (l.take i)).2 l[i]).1 ++ r2) = (0, l[i], (entP (pkAll (l.take i)).2 l[i]).2, r2) := by
      unfold rdObj
      rw [hone, if_neg (by simp), if_neg (by simp [hd _ (List.getElem_mem hlt)])]
    rw [rdAll, hobj, if_neg (by simp)]
    have hpre2 : (pkAll (l.take i)).2 ++ [(l[i], (entP (pkAll (l.take i)).2 l[i]).2)] = (pkAll (l.take (i + 1))).2 := by rw [hst, pkStep]
    simp only []
    rw [hpre2]
    obtain ⟨pl', g1, g2, g3⟩ := rdAll_pk hx hd hl len n (i + 1) (by omega) (pl ++ [len - ((entP (pkAll (l.take i)).2 l[i]).1 ++ r2).length]) r2 h2
    refine ⟨(len - ((entP (pkAll (l.take i)).2 l[i]).1 ++ r2).length) :: pl', by rw [g1]; simp, by simp [g2], fun j q hq => ?_⟩
    cases j with
    | zero =>
      simp only [List.getElem?_cons_zero, Option.some.injEq] at hq
      have hle := congrArg List.length hr
      rw [List.length_append] at hle
      rw [← hq, Nat.add_zero, ← hle, Nat.add_sub_cancel_left]
    | succ j =>
      rw [List.getElem?_cons_succ] at hq
      rw [g3 j q hq, show i + 1 + j = i + (j + 1) by omega]
end Go.Mx
