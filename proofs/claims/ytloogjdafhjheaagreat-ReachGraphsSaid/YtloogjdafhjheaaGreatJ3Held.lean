/- A region that draws its order and whose last operations write what its first ones read: what is read is held up to operation number t, for which all readings are waited. Walks of bytes.Clone and the hasher's Write, Len, Copy. Walk of the hasher's Copy. Walk of the hasher's Sum. The document's turn and constants; the builtin copy over a row. -/
import Derived.Test.YtloogjdafhjheaaGreatJ2ShaW
import Derived.OrdersHeld
import Derived.StillTail
import Derived.Deep.RegionHeld3
import Derived.Lib.LazyBuf
namespace Go.Mx
open Go Go.RowKit

section
variable {P : Program} {md : Region.Mode} {ops : Array Oper} {Q : Exit → Act → World → Prop} {t : Nat} {S : World → Prop}

def wpAnyS (P : Program) (md : Region.Mode) (ops : Array Oper) (Q : Exit → Act → World → Prop) (t : Nat) (S : World → Prop) : Nat → Array Bool → Act → World → Prop
  | 0, listed, a, w => Region.ready md ops listed = [] ∧ Q .normal a w
  | fuel + 1, listed, a, w =>
    (Region.ready md ops listed = [] → Q .normal a w) ∧
    ∀ i ∈ Region.ready md ops listed, wpOp P ops Q i (fun a' w' => ((listed.setIfInBounds i true).getD t true = false → S w') ∧ wpAnyS P md ops Q t S fuel (listed.setIfInBounds i true) a' w') a w

theorem wpAny_of_S : ∀ (fuel : Nat) (listed : Array Bool) (a : Act) (w : World), wpAnyS P md ops Q t S fuel listed a w → wpAny P md ops Q fuel listed a w
  | 0, _, _, _, h => h
  | fuel + 1, _, _, _, h => ⟨h.1, fun i hi => wpOp_mono (fun a' w' h' => wpAny_of_S fuel _ a' w' h'.2) (h.2 i hi)⟩

theorem getD_set_self {listed : Array Bool} {i j : Nat} (h : i ≠ j) : (listed.setIfInBounds i true).getD j true = listed.getD j true := getD_set_ne true h

theorem wpAnyS_first {i : Nat} {oi : Oper} {v : Value} (hi : ops[i]? = some oi) (hsel : ∀ (j : Nat) (o : Oper) cs b, ops[j]? = some o → o.op ≠ .select cs b)
    (hit : i ≠ t) (hwt : Region.waitsFor md ops t i = true)
    (hQ : ∀ c a w, Q (.panic c) (a.put oi.dst v) w → Q (.panic c) a w) :
    ∀ (fuel : Nat) (listed : Array Bool) (a : Act) (w : World),
      (∀ j oj, ops[j]? = some oj → j ≠ i → listed.getD j true = false → (∀ e ∈ oj.after, Region.binds md e = true → e.on ≠ i) → oi.apart ops oj = true) →
      i ∈ Region.ready md ops listed → listed.getD t true = false → YieldsIf P ops S oi v a → S w →
      wpAnyS P md ops Q t S fuel (listed.setIfInBounds i true) (a.put oi.dst v) w → wpAnyS P md ops Q t S (fuel + 1) listed a w := by
  intro fuel
  induction fuel with
  | zero =>
    intro listed a w _ hr _ hy hS H
    refine ⟨fun h => (by rw [h] at hr; cases hr), fun j hj => ?_⟩
    by_cases hji : j = i
    · subst hji; exact hy.wpOp hi hS ⟨fun _ => hS, H⟩
    · have := ready_mono hj hji
      rw [H.1] at this
      cases this
  | succ fuel ih =>
    intro listed a w hfree hr hlt hy hS H
    refine ⟨fun h => (by rw [h] at hr; cases hr), fun j hj => ?_⟩
    by_cases hji : j = i
    · subst hji; exact hy.wpOp hi hS ⟨fun _ => hS, H⟩
    · have h1 := H.2 j (ready_mono hj hji)
      obtain ⟨hjun, oj, hoj, hall⟩ := mem_ready.1 hj
      have hi0 := (mem_ready.1 hr).1
      have hi1 : listed.getD i false = false := by
        rcases Nat.lt_or_ge i listed.size with h' | h'
        · simp [h'] at hi0 ⊢; exact hi0
        · simp [Array.getElem?_eq_none h'] at hi0
      have hnot : ∀ e ∈ oj.after, Region.binds md e = true → e.on ≠ i := fun e he hb heq => by
        have h1 := hall e he hb
        rw [heq, hi1] at h1
        cases h1
      have hjt : j ≠ t := by
        rintro rfl
        obtain ⟨ot, hot, e, he, hb, hon⟩ := Region.waitsFor_spec hwt
        obtain rfl : ot = oj := Option.some.inj (hot.symm.trans hoj)
        exact hnot e he hb hon
      have h2 := wpOp_putIf hoj (hfree j oj hoj hji hjun hnot) (fun cs b => hsel i oi cs b hi) (fun cs b => hsel j oj cs b hoj) hQ hy h1
      have hfree' : ∀ k ok, ops[k]? = some ok → k ≠ i → (listed.setIfInBounds j true).getD k true = false →
          (∀ e ∈ ok.after, Region.binds md e = true → e.on ≠ i) → oi.apart ops ok = true := fun k ok hk hki hun hno => by
        refine hfree k ok hk hki ?_ hno
        by_cases hjk : j = k
        · subst hjk; exact hjun
        · rw [getD_set_ne true hjk] at hun; exact hun
      have hlt' : (listed.setIfInBounds j true).getD t true = false := by rw [getD_set_ne true hjt]; exact hlt
      refine wpOp_mono (fun a' w' h3 => ?_) h2
      obtain ⟨h3y, h3S, h3w⟩ := h3
      have hSw : S w' := h3S (by rw [getD_set_ne true hjt, getD_set_ne true hit]; exact hlt)
      refine ⟨fun _ => hSw, ih (listed.setIfInBounds j true) a' w' hfree' (ready_mono hr (Ne.symm hji)) hlt' h3y hSw ?_⟩
      rw [Array.setIfInBounds_comm _ _ hji]
      exact h3w

/-- Take number i first. -/
theorem wpAnyS_take {i : Nat} {oi : Oper} {v : Value} {fuel : Nat} {listed : Array Bool} {a : Act} {w : World} (hi : ops[i]? = some oi)
    (hs : Region.noSelect ops = true) (hf : Region.free md ops listed i = true) (hr : (Region.ready md ops listed).contains i = true) (hwt : Region.waitsFor md ops t i = true) (hit : (i != t) = true) (hlt : listed.getD t true = false)
    (hQ : ∀ c a w, Q (.panic c) (a.put oi.dst v) w → Q (.panic c) a w) (hy : YieldsIf P ops S oi v a) (hS : S w)
    (h : wpAnyS P md ops Q t S fuel (listed.setIfInBounds i true) (a.put oi.dst v) w) : wpAnyS P md ops Q t S (fuel + 1) listed a w :=
  wpAnyS_first hi (Region.noSelect_spec hs) (by simpa using hit) hwt hQ fuel listed a w (Region.free_spec hi hf) (by simpa using hr) hlt hy hS h

def AllS (P : Program) (md : Region.Mode) (ops : Array Oper) (Q : Exit → Act → World → Prop) (t : Nat) (S : World → Prop) (fuel : Nat) (listed : Array Bool) (a : Act) (w : World) (rs : List Nat) : Prop :=
  ∀ i ∈ rs, wpOp P ops Q i (fun a' w' => ((listed.setIfInBounds i true).getD t true = false → S w') ∧ wpAnyS P md ops Q t S fuel (listed.setIfInBounds i true) a' w') a w
theorem AllS.nil {fuel : Nat} {listed : Array Bool} {a : Act} {w : World} : AllS P md ops Q t S fuel listed a w [] := fun _ h => by cases h
theorem AllS.cons {fuel : Nat} {listed : Array Bool} {a : Act} {w : World} {i : Nat} {o : Oper} {rs : List Nat} (ho : ops[i]? = some o)
    (h : ∀ K' : Act → World → Prop, Hid (∀ a w, S w → (S w → wpAnyS P md ops Q t S fuel (listed.setIfInBounds i true) a w) → K' a w) → if Region.wanted o (yielded ops a.tmps) = true then Oper.wp P o a w K' Q else K' (a.put o.dst undef) w)
    (hs : AllS P md ops Q t S fuel listed a w rs) : AllS P md ops Q t S fuel listed a w (i :: rs) := fun j hj => by
  rcases List.mem_cons.1 hj with rfl | hj
  · unfold wpOp
    rw [ho]
    have := h (fun a' w' => ((listed.setIfInBounds j true).getD t true = false → S w') ∧ wpAnyS P md ops Q t S fuel (listed.setIfInBounds j true) a' w') (fun a w hS hw => ⟨fun _ => hS, hw hS⟩)
    simp only []
    split
    · rename_i hwd; rw [if_pos hwd] at this; exact .inl this
    · rename_i hwd; rw [if_neg hwd] at this; exact this
  · exact hs j hj
theorem wpAnyS_ready {rs : List Nat} {fuel : Nat} {listed : Array Bool} {a : Act} {w : World} (hr : Region.ready md ops listed = rs) (hne : rs ≠ [])
    (h : AllS P md ops Q t S fuel listed a w rs) : wpAnyS P md ops Q t S (fuel + 1) listed a w :=
  ⟨fun h0 => absurd (hr ▸ h0) hne, hr ▸ h⟩
theorem wp_region_S (t : Nat) (S : World → Prop) {id : Nat} {a : Act} {w : World} (hm : P.follows .mixedOrders = true)
    (hS : S w.drew) (h : S w.drew → wpAnyS P .any ops Q t S ops.size (Array.replicate ops.size false) a w.drew) : (Code.region id ops true).wp P Q a w :=
  wp_region_any hm (wpAny_of_S _ _ _ _ (h hS))

theorem wpAnyS_of_seq : ∀ (l : List Oper) (k : Nat) (listed : Array Bool) (a : Act) (w : World), (∀ j, l[j]? = ops[k + j]?) →
    Region.seqB md ops l.length k listed = true → listed.getD t true = true ∨ k = t → wpList P ops Q l a w → wpAnyS P md ops Q t S l.length listed a w
  | [], _, _, _, _, _, hB, _, h => ⟨by simpa [Region.seqB] using hB, h⟩
  | o :: l, k, listed, a, w, hl, hB, hk, h => by
    have h0 : ops[k]? = some o := by simpa using (hl 0).symm
    simp only [List.length_cons, Region.seqB, Bool.and_eq_true, decide_eq_true_eq] at hB
    have ht : (listed.setIfInBounds k true).getD t true = true := by
      by_cases hkt : k = t
      · subst hkt
        rcases Nat.lt_or_ge k listed.size with h' | h'
        · simp [h']
        · simp [Array.getElem?_eq_none (show (listed.setIfInBounds k true).size ≤ k by simpa using h')]
      · rw [getD_set_ne true hkt]
        exact hk.resolve_right hkt
    refine ⟨fun h1 => (by rw [hB.1] at h1; cases h1), fun i hi => ?_⟩
    rw [hB.1] at hi
    obtain rfl : i = k := by simpa using hi
    have hw : wpOp P ops Q i (wpList P ops Q l) a w := by unfold wpOp; simp only [h0]; exact h
    exact wpOp_mono (fun a' w' h' => ⟨fun hf => (by rw [ht] at hf; cases hf), wpAnyS_of_seq l (i + 1) _ a' w' (fun j => by have := hl (j + 1); simpa [Nat.add_assoc, Nat.add_comm 1 j] using this) hB.2 (.inl ht) h'⟩) hw
/-- What is left is a list. -/
theorem wpAnyS_seq {l : List Oper} {fuel : Nat} {listed : Array Bool} {a : Act} {w : World} (hf : (l.drop t).length = fuel) (hB : Region.seqB md l.toArray fuel t listed = true)
    (h : wpList P l.toArray Q (l.drop t) a w) : wpAnyS P md l.toArray Q t S fuel listed a w := by
  subst hf
  exact wpAnyS_of_seq (l.drop t) t listed a w (fun j => by simp [List.getElem?_drop]) hB (.inr rfl) h
/-- The same moves over a list of operations. -/
theorem wpAnyS_takeL {l : List Oper} {i : Nat} {oi : Oper} {v : Value} {fuel : Nat} {listed : Array Bool} {a : Act} {w : World} (hi : l[i]? = some oi)
    (hs : Region.noSelect l.toArray = true) (hf : Region.free md l.toArray listed i = true) (hr : (Region.ready md l.toArray listed).contains i = true) (hwt : Region.waitsFor md l.toArray t i = true) (hit : (i != t) = true) (hlt : listed.getD t true = false)
    (hQ : ∀ c a w, Q (.panic c) (a.put oi.dst v) w → Q (.panic c) a w) (hy : YieldsIf P l.toArray S oi v a) (hS : S w)
    (h : wpAnyS P md l.toArray Q t S fuel (listed.setIfInBounds i true) (a.put oi.dst v) w) : wpAnyS P md l.toArray Q t S (fuel + 1) listed a w :=
  wpAnyS_take (by simpa using hi) hs hf hr hwt hit hlt hQ hy hS h
theorem AllS.consL {l : List Oper} {fuel : Nat} {listed : Array Bool} {a : Act} {w : World} {i : Nat} {o : Oper} {rs : List Nat} (ho : l[i]? = some o)
    (h : ∀ K' : Act → World → Prop, Hid (∀ a w, S w → (S w → wpAnyS P md l.toArray Q t S fuel (listed.setIfInBounds i true) a w) → K' a w) → if Region.wanted o (yielded l.toArray a.tmps) = true then Oper.wp P o a w K' Q else K' (a.put o.dst undef) w)
    (hs : AllS P md l.toArray Q t S fuel listed a w rs) : AllS P md l.toArray Q t S fuel listed a w (i :: rs) := AllS.cons (by simpa using ho) h hs
/-- An operation that yields in whatever world may be taken first, though number t does not wait for it. -/
theorem wpAnyS_firstW {i : Nat} {oi : Oper} {v : Value} (hi : ops[i]? = some oi) (hsel : ∀ (j : Nat) (o : Oper) cs b, ops[j]? = some o → o.op ≠ .select cs b) (hit : i ≠ t)
    (hQ : ∀ c a w, Q (.panic c) (a.put oi.dst v) w → Q (.panic c) a w) :
    ∀ (fuel : Nat) (listed : Array Bool) (a : Act) (w : World),
      (∀ j oj, ops[j]? = some oj → j ≠ i → listed.getD j true = false → (∀ e ∈ oj.after, Region.binds md e = true → e.on ≠ i) → oi.apart ops oj = true) →
      i ∈ Region.ready md ops listed → YieldsIf P ops (fun _ => True) oi v a → (listed.getD t true = false → S w) →
      wpAnyS P md ops Q t S fuel (listed.setIfInBounds i true) (a.put oi.dst v) w → wpAnyS P md ops Q t S (fuel + 1) listed a w := by
  intro fuel
  induction fuel with
  | zero =>
    intro listed a w _ hr hy hS H
    refine ⟨fun h => (by rw [h] at hr; cases hr), fun j hj => ?_⟩
    by_cases hji : j = i
    · subst hji; exact hy.wpOp hi trivial ⟨fun h => hS (by rwa [getD_set_ne true hit] at h), H⟩
    · have := ready_mono hj hji
      rw [H.1] at this
      cases this
  | succ fuel ih =>
    intro listed a w hfree hr hy hS H
    refine ⟨fun h => (by rw [h] at hr; cases hr), fun j hj => ?_⟩
    by_cases hji : j = i
    · subst hji; exact hy.wpOp hi trivial ⟨fun h => hS (by rwa [getD_set_ne true hit] at h), H⟩
    · have h1 := H.2 j (ready_mono hj hji)
      obtain ⟨hjun, oj, hoj, hall⟩ := mem_ready.1 hj
      have hi0 := (mem_ready.1 hr).1
      have hi1 : listed.getD i false = false := by
        rcases Nat.lt_or_ge i listed.size with h' | h'
        · simp [h'] at hi0 ⊢; exact hi0
        · simp [Array.getElem?_eq_none h'] at hi0
      have hnot : ∀ e ∈ oj.after, Region.binds md e = true → e.on ≠ i := fun e he hb heq => by
        have h1 := hall e he hb
        rw [heq, hi1] at h1
        cases h1
      have h2 := wpOp_putIf hoj (hfree j oj hoj hji hjun hnot) (fun cs b => hsel i oi cs b hi) (fun cs b => hsel j oj cs b hoj) hQ hy h1
      have hfree' : ∀ k ok, ops[k]? = some ok → k ≠ i → (listed.setIfInBounds j true).getD k true = false →
          (∀ e ∈ ok.after, Region.binds md e = true → e.on ≠ i) → oi.apart ops ok = true := fun k ok hk hki hun hno => by
        refine hfree k ok hk hki ?_ hno
        by_cases hjk : j = k
        · subst hjk; exact hjun
        · rw [getD_set_ne true hjk] at hun; exact hun
      refine wpOp_mono (fun a' w' h3 => ?_) h2
      obtain ⟨h3y, h3S, h3w⟩ := h3
      have hSw : (listed.setIfInBounds j true).getD t true = false → S w' := fun h => h3S (by rw [Array.setIfInBounds_comm _ _ (Ne.symm hji), getD_set_ne true hit]; exact h)
      refine ⟨hSw, ih (listed.setIfInBounds j true) a' w' hfree' (ready_mono hr (Ne.symm hji)) h3y hSw ?_⟩
      rw [Array.setIfInBounds_comm _ _ hji]
      exact h3w
theorem wpAnyS_takeW {l : List Oper} {i : Nat} {oi : Oper} {v : Value} {fuel : Nat} {listed : Array Bool} {a : Act} {w : World} (hi : l[i]? = some oi)
    (hs : Region.noSelect l.toArray = true) (hf : Region.free md l.toArray listed i = true) (hr : (Region.ready md l.toArray listed).contains i = true) (hit : (i != t) = true)
    (hQ : ∀ c a w, Q (.panic c) (a.put oi.dst v) w → Q (.panic c) a w) (hy : YieldsIf P l.toArray (fun _ => True) oi v a) (hS : S w)
    (h : wpAnyS P md l.toArray Q t S fuel (listed.setIfInBounds i true) (a.put oi.dst v) w) : wpAnyS P md l.toArray Q t S (fuel + 1) listed a w :=
  wpAnyS_firstW (by simpa using hi) (Region.noSelect_spec hs) (by simpa using hit) hQ fuel listed a w (Region.free_spec (by simpa using hi) hf) (by simpa using hr) hy (fun _ => hS) h
end
theorem St.rot {w0 w : World} {r : Row} {R : List Row} {Q : List Rd} (h : St w0 w (r :: R) Q) : St w0 w (R ++ [r]) Q := h.perm (List.perm_append_comm (l₁ := [r]) (l₂ := R))
end Go.Mx

namespace Go.Mx
open Go Go.RowKit
theorem sub_head (a b : Rd) (Q : List Rd) : ∀ q ∈ a :: Q, q ∈ a :: b :: Q := by
  intro q hq
  rcases List.mem_cons.1 hq with rfl | hq
  · exact List.mem_cons_self ..
  · exact List.mem_cons_of_mem _ (List.mem_cons_of_mem _ hq)
/-- A slice that is read, cut. -/
theorem St.cutQ {P : Program} {w0 w : World} {R : List Row} {Q : List Rd} {t e : TypeId} {bytes : Nat} (E : El P t e 1 bytes) {V : Value} {X : List UInt8} (h : St w0 w R (⟨V, 1, X.length, bs X⟩ :: Q)) {k : Nat} (hk : k ≤ X.length) :
    ∃ xo xc, (∀ w', (Instr.sliceAt t V (some (.int .i64 (k : Int))) none none).run P w' = .ok (.slice xo (X.length - k) xc) w') ∧ St w0 w R (⟨.slice xo (X.length - k) xc, 1, (X.drop k).length, bs (X.drop k)⟩ :: Q) := by
  have hV := h.q0
  obtain ⟨ao, cap, rfl, h1, _⟩ := id hV
  refine ⟨_, _, fun w' => run_slice_sl E h1 (some (.int .i64 (k : Int))) none k X.length (.inr ⟨_, rfl⟩) (.inl ⟨rfl, rfl⟩) hk (Nat.le_refl _), ?_⟩
  have hc := hV.cut hk (Nat.le_refl _)
  refine ⟨h.below, h.own, h.sep, fun q hq => ?_, fun q hq r hr hne b hb => ?_⟩
  · rcases List.mem_cons.1 hq with rfl | hq
    · have e1 : ((bs X).take (X.length * 1)).drop (k * 1) = bs (X.drop k) := by rw [bs_cut, List.take_length]
      rw [e1] at hc
      rw [List.length_drop]
      exact hc
    · exact h.rd q (List.mem_cons_of_mem _ hq)
  · rcases List.mem_cons.1 hq with rfl | hq
    · have hX : bs X ≠ [] := by
        intro hx
        refine hne ?_
        have hX : X = [] := by simpa [bs] using hx
        subst hX; simp [bs]
      have := h.apart ⟨.slice ao X.length cap, 1, X.length, bs X⟩ (List.mem_cons_self ..) r hr hX b hb
      intro hx
      refine this ?_
      simp only [] at hx ⊢
      cases ao with
      | none => split at hx <;> simp [Value.ownBlock] at hx
      | some a =>
        split at hx
        · exact hx
        · simp [Value.ownBlock, Addr.add_block] at hx ⊢
          exact hx
    · exact h.apart q (List.mem_cons_of_mem _ hq) r hr hne b hb
end Go.Mx
namespace Go.Proofs.YtloogjdafhjheaaGreat
open Go.RowKit Go.Mx

end Go.Proofs.YtloogjdafhjheaaGreat

namespace Go.Proofs.YtloogjdafhjheaaGreat
open Go.RowKit Go.Mx

end Go.Proofs.YtloogjdafhjheaaGreat

namespace Go.Mx
open Go Go.RowKit
theorem w_b24 (x : U32) : ((x.toNat : Int) / (16777216 : Int)) % (256 : Int) = ((UInt8.ofNat (x >>> 24).toNat).toNat : Int) := by
  rw [← w_low, ← w_shr]; rfl
theorem w_b16 (x : U32) : ((x.toNat : Int) / (65536 : Int)) % (256 : Int) = ((UInt8.ofNat (x >>> 16).toNat).toNat : Int) := by
  rw [← w_low, ← w_shr]; rfl
theorem w_b8 (x : U32) : ((x.toNat : Int) / (256 : Int)) % (256 : Int) = ((UInt8.ofNat (x >>> 8).toNat).toNat : Int) := by
  rw [← w_low, ← w_shr]; rfl
theorem padH_test (n m : Nat) (h1 : 1 ≤ m) (h : m ≤ padZ n + 1) : (n + m) % 64 = 56 ↔ m = padZ n + 1 := by
  unfold padZ at h ⊢; omega
theorem padH_snoc {m : Nat} (h1 : 1 ≤ m) : bs (0x80 :: List.replicate (m - 1) 0) ++ [Value.int .u8 0] = bs (0x80 :: List.replicate (m + 1 - 1) 0) := by
  obtain ⟨k, rfl⟩ : ∃ k, m = k + 1 := ⟨m - 1, by omega⟩
  simp only [Nat.add_sub_cancel, List.replicate_succ']
  rw [← List.cons_append, bs_app]
  rfl
theorem be8_snoc (n : Nat) {i : Nat} (hi : i < 8) : bs (padH n ++ (be8 (8 * n)).take i) ++ [Value.int .u8 ((8 * n : Nat) / 2 ^ (56 - 8 * i) % 256 : Int)] = bs (padH n ++ (be8 (8 * n)).take (i + 1)) := by
  have hl : i < (be8 (8 * n)).length := by rw [be8_len]; exact hi
  rw [List.take_succ_eq_append_getElem hl, ← List.append_assoc, bs_app (padH n ++ (be8 (8 * n)).take i)]
  congr 1
  simp only [be8, List.getElem_map, List.getElem_range, bs_cons, bs_nil]
  rw [UInt8.toNat_ofNat']
  congr 2
theorem w4_cells (x : U32) : [Value.int .u8 ((x.toNat : Int) / 16777216), Value.int .u8 ((x.toNat : Int) / 65536 % 256), Value.int .u8 ((x.toNat : Int) / 256 % 256), Value.int .u8 ((x.toNat : Int) % 256)] = bs (w4 x) := by
  have h := w_b24 x
  have hx := x.isLt
  rw [show ((x.toNat : Int) / (16777216 : Int)) % (256 : Int) = (x.toNat : Int) / (16777216 : Int) by omega] at h
  simp only [w4, bs_cons, bs_nil]
  rw [h, w_b16, w_b8, w_low]
theorem outW_snoc (t : S8) {i : Nat} (hi : i < 8) : bs (outW (t.lst.take i)) ++ bs (w4 (t.lst.getD i 0)) = bs (outW (t.lst.take (i + 1))) := by
  have hl : i < t.lst.length := by rw [S8.lst_len]; exact hi
  rw [List.take_succ_eq_append_getElem hl, ← bs_app, List.getD_eq_getElem?_getD, List.getElem?_eq_getElem hl]
  congr 1
  unfold outW
  rw [List.map_append, List.flatten_append]
  simp
theorem Sl.four (w : World) (x y z t : Value) (e : TypeId) : Sl (w.alloc (.cells #[x, y, z, t] e)) 1 (.slice (some ⟨w.heap.size, 0, none⟩) 4 4) 4 [x, y, z, t] :=
  ((St.refl w).made #[x, y, z, t] e 1 4 rfl (by simp [maxLen])).sl0
theorem padZ_le (n : Nat) : padZ n < 64 := by unfold padZ; omega
theorem pad_eq (n : Nat) : pad n = padH n ++ be8 (8 * n) := rfl
end Go.Mx
namespace Go.Proofs.YtloogjdafhjheaaGreat
open Go.RowKit Go.Mx

theorem ix8 (t : S8) : ∀ i : Nat, i < 8 → ∀ w', (Instr.index 115 (.agg (u32s t.lst).toArray) (.int .i64 (i : Int))).run Tryz.prog w' = .ok (.int .u32 ((t.lst.getD i 0).toNat : Int)) w' := fun i hi w' => by
  have h : i = 0 ∨ i = 1 ∨ i = 2 ∨ i = 3 ∨ i = 4 ∨ i = 5 ∨ i = 6 ∨ i = 7 := by omega
  rcases h with rfl | rfl | rfl | rfl | rfl | rfl | rfl | rfl <;> (show Sem.run _ _ _ = _; kernel_rfl)

end Go.Proofs.YtloogjdafhjheaaGreat

namespace Go.Mx
open Go Go.RowKit

/-- copy(dst, src), dst the head row from its place j on, src a slice that reads as cells and fits. -/
theorem wpl_copyS {P : Program} {w0 w : World} {R : List Row} {Qs : List Rd} {ops : Array Oper} {rest : List Oper} {o : Oper} {a : Act} {Q : Exit → Act → World → Prop} (hgd : o.guard = none) (d s : Operand) (dT sT : TypeId)
    (ho : o.op = .call { callee := .builtin .copy, args := #[d, s], argTypes := #[dT, sT] }) {elem : TypeId} (hu : P.underlying dT = some (.slice elem)) (hsz : (P.info? elem).map (·.size) = some 1)
    {g n cap : Nat} {e : TypeId} {size : Nat} {xs : List Value} (hst : St w0 w (⟨.slice (some ⟨g, 0, none⟩) n cap, e, size, n, xs⟩ :: R) Qs) (j dl dc : Nat) (hd : a.eval d = .slice (some ⟨g, j, none⟩) dl dc)
    {m : Nat} {cs : List Value} (hs : Sl w 1 (a.eval s) m cs) (hm : m ≤ dl) (hj : j + cs.length ≤ xs.length) (h1 : ∀ u ∈ cs, u.oneCell' = true)
    (h : ∀ w', St w0 w' (⟨.slice (some ⟨g, 0, none⟩) n cap, e, size, n, xs.take j ++ cs ++ xs.drop (j + cs.length)⟩ :: R) Qs → wpList P ops Q rest (a.put o.dst (goInt m)) w') : wpList P ops Q (o :: rest) a w := by
  refine wpList_plain hgd fun K hK => ?_
  obtain ⟨w', hr, h2⟩ := hst.store (P := P) j cs hj h1
  have hl := lenOf_sl (P := P) hs
  have hf := firstCells_sl (P := P) hs w rfl
  obtain ⟨i, hi, hiz⟩ := Option.map_eq_some_iff.1 hsz
  unfold Oper.wp execOp
  simp only [ho, resolve, invoke, builtin, Sem.run_bind, Sem.run_pure, Result.andThen_ok, List.map_toArray, List.map_cons, List.map_nil, hd]
  simp [Builtin.copy_, run_underlying hu, hl, sizeOf, typeInfo, hi, hiz, Nat.min_eq_left hm, hf, hr]
  exact hK _ _ (h w' h2)
end Go.Mx
namespace Go.Proofs.YtloogjdafhjheaaGreat
open Go.RowKit Go.Mx

theorem turn2_any (x : U32) (w : World) :
    Calls Tryz.prog 64 #[.int .u32 (x.toNat : Int), .int .i64 2] w fun e w' => e = .returned (.int .u32 ((rotr x 2).toNat : Int)) ∧ ∃ n, w' = w.drewN n := by
  have h1 := w_shl x 30
  have h2 := w_shr x 2
  have h3 := w_or (x >>> 2) (x <<< 30)
  go_enter Tryz.func64, Tryz.ntmps64
  go_wp2_with fail
  go_quiet (fail)
  go_wp2_with fail
  go_ret
  rw [← h1, ← h2] at h3
  have h4 : rotr x 2 = (x >>> 2) ||| (x <<< 30) := rfl
  rw [h4]
  refine ⟨?_, _, rfl⟩
  first | exact congrArg (fun z => Ending.returned (.int .u32 z)) h3 | (simp; exact h3) | trace_state
theorem turn6_any (x : U32) (w : World) :
    Calls Tryz.prog 64 #[.int .u32 (x.toNat : Int), .int .i64 6] w fun e w' => e = .returned (.int .u32 ((rotr x 6).toNat : Int)) ∧ ∃ n, w' = w.drewN n := by
  have h1 := w_shl x 26
  have h2 := w_shr x 6
  have h3 := w_or (x >>> 6) (x <<< 26)
  go_enter Tryz.func64, Tryz.ntmps64
  go_wp2_with fail
  go_quiet (fail)
  go_wp2_with fail
  go_ret
  rw [← h1, ← h2] at h3
  have h4 : rotr x 6 = (x >>> 6) ||| (x <<< 26) := rfl
  rw [h4]
  refine ⟨?_, _, rfl⟩
  first | exact congrArg (fun z => Ending.returned (.int .u32 z)) h3 | (simp; exact h3) | trace_state
theorem turn7_any (x : U32) (w : World) :
    Calls Tryz.prog 64 #[.int .u32 (x.toNat : Int), .int .i64 7] w fun e w' => e = .returned (.int .u32 ((rotr x 7).toNat : Int)) ∧ ∃ n, w' = w.drewN n := by
  have h1 := w_shl x 25
  have h2 := w_shr x 7
  have h3 := w_or (x >>> 7) (x <<< 25)
  go_enter Tryz.func64, Tryz.ntmps64
  go_wp2_with fail
  go_quiet (fail)
  go_wp2_with fail
  go_ret
  rw [← h1, ← h2] at h3
  have h4 : rotr x 7 = (x >>> 7) ||| (x <<< 25) := rfl
  rw [h4]
  refine ⟨?_, _, rfl⟩
  first | exact congrArg (fun z => Ending.returned (.int .u32 z)) h3 | (simp; exact h3) | trace_state
theorem turn11_any (x : U32) (w : World) :
    Calls Tryz.prog 64 #[.int .u32 (x.toNat : Int), .int .i64 11] w fun e w' => e = .returned (.int .u32 ((rotr x 11).toNat : Int)) ∧ ∃ n, w' = w.drewN n := by
  have h1 := w_shl x 21
  have h2 := w_shr x 11
  have h3 := w_or (x >>> 11) (x <<< 21)
  go_enter Tryz.func64, Tryz.ntmps64
  go_wp2_with fail
  go_quiet (fail)
  go_wp2_with fail
  go_ret
  rw [← h1, ← h2] at h3
  have h4 : rotr x 11 = (x >>> 11) ||| (x <<< 21) := rfl
  rw [h4]
  refine ⟨?_, _, rfl⟩
  first | exact congrArg (fun z => Ending.returned (.int .u32 z)) h3 | (simp; exact h3) | trace_state
theorem turn13_any (x : U32) (w : World) :
    Calls Tryz.prog 64 #[.int .u32 (x.toNat : Int), .int .i64 13] w fun e w' => e = .returned (.int .u32 ((rotr x 13).toNat : Int)) ∧ ∃ n, w' = w.drewN n := by
  have h1 := w_shl x 19
  have h2 := w_shr x 13
  have h3 := w_or (x >>> 13) (x <<< 19)
  go_enter Tryz.func64, Tryz.ntmps64
  go_wp2_with fail
  go_quiet (fail)
  go_wp2_with fail
  go_ret
  rw [← h1, ← h2] at h3
  have h4 : rotr x 13 = (x >>> 13) ||| (x <<< 19) := rfl
  rw [h4]
  refine ⟨?_, _, rfl⟩
  first | exact congrArg (fun z => Ending.returned (.int .u32 z)) h3 | (simp; exact h3) | trace_state
theorem turn17_any (x : U32) (w : World) :
    Calls Tryz.prog 64 #[.int .u32 (x.toNat : Int), .int .i64 17] w fun e w' => e = .returned (.int .u32 ((rotr x 17).toNat : Int)) ∧ ∃ n, w' = w.drewN n := by
  have h1 := w_shl x 15
  have h2 := w_shr x 17
  have h3 := w_or (x >>> 17) (x <<< 15)
  go_enter Tryz.func64, Tryz.ntmps64
  go_wp2_with fail
  go_quiet (fail)
  go_wp2_with fail
  go_ret
  rw [← h1, ← h2] at h3
  have h4 : rotr x 17 = (x >>> 17) ||| (x <<< 15) := rfl
  rw [h4]
  refine ⟨?_, _, rfl⟩
  first | exact congrArg (fun z => Ending.returned (.int .u32 z)) h3 | (simp; exact h3) | trace_state
theorem turn18_any (x : U32) (w : World) :
    Calls Tryz.prog 64 #[.int .u32 (x.toNat : Int), .int .i64 18] w fun e w' => e = .returned (.int .u32 ((rotr x 18).toNat : Int)) ∧ ∃ n, w' = w.drewN n := by
  have h1 := w_shl x 14
  have h2 := w_shr x 18
  have h3 := w_or (x >>> 18) (x <<< 14)
  go_enter Tryz.func64, Tryz.ntmps64
  go_wp2_with fail
  go_quiet (fail)
  go_wp2_with fail
  go_ret
  rw [← h1, ← h2] at h3
  have h4 : rotr x 18 = (x >>> 18) ||| (x <<< 14) := rfl
  rw [h4]
  refine ⟨?_, _, rfl⟩
  first | exact congrArg (fun z => Ending.returned (.int .u32 z)) h3 | (simp; exact h3) | trace_state
theorem turn19_any (x : U32) (w : World) :
    Calls Tryz.prog 64 #[.int .u32 (x.toNat : Int), .int .i64 19] w fun e w' => e = .returned (.int .u32 ((rotr x 19).toNat : Int)) ∧ ∃ n, w' = w.drewN n := by
  have h1 := w_shl x 13
  have h2 := w_shr x 19
  have h3 := w_or (x >>> 19) (x <<< 13)
  go_enter Tryz.func64, Tryz.ntmps64
  go_wp2_with fail
  go_quiet (fail)
  go_wp2_with fail
  go_ret
  rw [← h1, ← h2] at h3
  have h4 : rotr x 19 = (x >>> 19) ||| (x <<< 13) := rfl
  rw [h4]
  refine ⟨?_, _, rfl⟩
  first | exact congrArg (fun z => Ending.returned (.int .u32 z)) h3 | (simp; exact h3) | trace_state
theorem turn22_any (x : U32) (w : World) :
    Calls Tryz.prog 64 #[.int .u32 (x.toNat : Int), .int .i64 22] w fun e w' => e = .returned (.int .u32 ((rotr x 22).toNat : Int)) ∧ ∃ n, w' = w.drewN n := by
  have h1 := w_shl x 10
  have h2 := w_shr x 22
  have h3 := w_or (x >>> 22) (x <<< 10)
  go_enter Tryz.func64, Tryz.ntmps64
  go_wp2_with fail
  go_quiet (fail)
  go_wp2_with fail
  go_ret
  rw [← h1, ← h2] at h3
  have h4 : rotr x 22 = (x >>> 22) ||| (x <<< 10) := rfl
  rw [h4]
  refine ⟨?_, _, rfl⟩
  first | exact congrArg (fun z => Ending.returned (.int .u32 z)) h3 | (simp; exact h3) | trace_state
theorem turn25_any (x : U32) (w : World) :
    Calls Tryz.prog 64 #[.int .u32 (x.toNat : Int), .int .i64 25] w fun e w' => e = .returned (.int .u32 ((rotr x 25).toNat : Int)) ∧ ∃ n, w' = w.drewN n := by
  have h1 := w_shl x 7
  have h2 := w_shr x 25
  have h3 := w_or (x >>> 25) (x <<< 7)
  go_enter Tryz.func64, Tryz.ntmps64
  go_wp2_with fail
  go_quiet (fail)
  go_wp2_with fail
  go_ret
  rw [← h1, ← h2] at h3
  have h4 : rotr x 25 = (x >>> 25) ||| (x <<< 7) := rfl
  rw [h4]
  refine ⟨?_, _, rfl⟩
  first | exact congrArg (fun z => Ending.returned (.int .u32 z)) h3 | (simp; exact h3) | trace_state

theorem consts_any (w : World) :
    Calls Tryz.prog 63 #[] w fun e w' => e = .returned (.slice (some ⟨w.heap.size, 0, none⟩) 64 64) ∧ St w w' [⟨.slice (some ⟨w.heap.size, 0, none⟩) 64 64, 112, 1, 64, u32s K64⟩] [] := by
  have hs := (St.refl w).made (u32s K64).toArray 112 1 64 (by rfl) (by simp [maxLen])
  go_enter Tryz.func63, Tryz.ntmps63
  go_wp2_with fail
  go_ret
  exact ⟨rfl, hs⟩
end Go.Proofs.YtloogjdafhjheaaGreat
