/- The document's Valid. The document's ID. A region that draws its order: its first operations read and call what leaves garbage alone, its last ones follow in one forced order: one walk of the text's order, over a class of worlds. marlaw10's Few; a text's name. marlaw10's Few, Source; marlaw12's few. What a source of objects answers. -/
import Derived.Test.YtloogjdafhjheaaGreatJ4HexP
import Derived.Test.YtloogjdafhjheaaGreatRSum
import Derived.Test.YtloogjdafhjheaaGreatJ1Lib3
import Derived.Deep.QuietTactic
import Derived.StillTail
import Derived.Test.YtloogjdafhjheaaGreatJ2ShaW
import Derived.Test.YtloogjdafhjheaaGreatJ3Held
namespace Go.Proofs.YtloogjdafhjheaaGreat
open Go.RowKit Go.Mx

theorem rvalid_any (s : ByteArray) (w : World) (hl : s.size ≤ 140737488355328) :
    Calls Tryz.prog 71 #[.string s] w fun e w' => e = .returned (.bool ((unhexL s.data.toList).any fun r => decide (r.length = 32))) ∧ St w w' [] [] := by
  generalize hL : s.data.toList = L at *
  have HS := Mx.hid hL
  clear hL
  go_enter Tryz.func71, Tryz.ntmps71
  go_wp2_with fail
  refine (unhex_any s w hl).mono ?_
  rintro e w1 ⟨v, rfl, hs⟩
  rw [HS.out] at hs ⊢
  cases hu : unhexL L with
  | none =>
    rw [hu] at hs
    go_wp2_with (first | ((with_reducible show wpList _ _ _ _ _ _); refine wpl_want rfl ?_))
    go_ret
    exact ⟨by rw [hu]; rfl, hs.bare⟩
  | some r =>
    rw [hu] at hs
    have hs : St w w1 [⟨v, 5, 1, r.length, bs r⟩] [] := hs
    obtain ⟨x, y, rfl, _⟩ := hs.sl0
    by_cases h32 : r.length = 32
    · go_wp2_with (first | ((with_reducible show wpList _ _ _ _ _ _); refine wpl_want rfl ?_))
      go_ret
      exact ⟨by rw [hu, show (some r).any (fun r => decide (r.length = 32)) = decide (r.length = 32) from rfl, h32]; rfl, hs.bare⟩
    · have h33 : ¬ ((r.length : Int) = 32) := by omega
      go_wp2_with (first | ((with_reducible show wpList _ _ _ _ _ _); refine wpl_want rfl ?_))
      go_ret
      exact ⟨by rw [hu, show (some r).any (fun r => decide (r.length = 32)) = decide (r.length = 32) from rfl, decide_eq_false h32]; exact congrArg (fun b => Ending.returned (.bool b)) (by simpa using h33), hs.bare⟩
end Go.Proofs.YtloogjdafhjheaaGreat

namespace Go.Proofs.YtloogjdafhjheaaGreat
open Go.RowKit Go.Mx

theorem rid_any (v : Value) (b : List UInt8) (w : World) (hv : Sl w 1 v b.length (bs b)) (hl : b.length ≤ 140737488351232) :
    Calls Tryz.prog 19 #[v] w fun e w' => e = .returned (.string (str (hexL (sha b)))) ∧ St w w' [] [] := by
  go_enter Tryz.func19, Tryz.ntmps19
  go_wp2_with fail
  refine (rsum_any v b w hv hl).mono ?_
  rintro e w1 ⟨v1, rfl, hs1⟩
  have hl2 := sha_len b
  have hs2 := hs1.cast hl2.symm rfl
  generalize hd : sha b = d at *
  have HD := Mx.hid hd
  clear hd
  go_wp2_with fail
  refine (hex_any v1 d w1 hs2.sl0 (by omega)).mono ?_
  rintro e w2 ⟨rfl, hk⟩
  go_wp2_with fail
  go_ret
  exact ⟨by rw [HD.out]; rfl, hs2.bare.call0 hk⟩
end Go.Proofs.YtloogjdafhjheaaGreat

namespace Go.Mx
open Go Go.RowKit

section
variable {P : Program} {md : Region.Mode} {ops : Array Oper} {C : World → Prop}

/-- Every order of the first n operations, each of one value in every world of the class; then L. -/
def anyC (P : Program) (md : Region.Mode) (ops : Array Oper) (C : World → Prop) (n : Nat) (L : Array Bool → Act → Prop) : Nat → Array Bool → Act → Prop
  | 0, listed, a => L listed a
  | f + 1, listed, a => Region.ready md ops listed ≠ [] ∧ ∀ i ∈ Region.ready md ops listed, i < n ∧ qOp P ops C i (anyC P md ops C n L f (listed.setIfInBounds i true)) a

theorem wpAny_of_C {n g : Nat} {L : Array Bool → Act → Prop} {Q' : Exit → Act → World → Prop} (hL : ∀ listed a w, C w → L listed a → wpAny P md ops Q' g listed a w) :
    ∀ (f : Nat) (listed : Array Bool) (a : Act) (w : World), C w → anyC P md ops C n L f listed a → wpAny P md ops Q' (f + g) listed a w
  | 0, listed, a, w, hw, h => by rw [Nat.zero_add]; exact hL _ _ _ hw h
  | f + 1, listed, a, w, hw, h => by
    rw [show f + 1 + g = (f + g) + 1 by omega]
    exact ⟨fun h0 => absurd h0 h.1, fun i hi => wpOp_of_qOp hw (fun a' w' hw' h' => wpAny_of_C hL f _ a' w' hw' h') (h.2 i hi).2⟩

theorem anyC_first {n i : Nat} {oi : Oper} {v : Value} {L : Array Bool → Act → Prop} (hi : ops[i]? = some oi) (hsel : ∀ (j : Nat) (o : Oper) cs b, ops[j]? = some o → o.op ≠ .select cs b)
    (hs : Region.sinkB md ops n = true) (hc : Region.chainB md ops n = true) (hn : n < ops.size) (hin : i < n)
    (hdone : ∀ listed a, L listed a → ∀ j ∈ Region.ready md ops listed, n ≤ j) :
    ∀ (f : Nat) (listed : Array Bool) (a : Act), HeadInv md ops n listed →
      (∀ j oj, ops[j]? = some oj → j ≠ i → listed.getD j true = false → (∀ e ∈ oj.after, Region.binds md e = true → e.on ≠ i) → oi.apart ops oj = true) →
      i ∈ Region.ready md ops listed → YieldsIn P ops C oi v a →
      anyC P md ops C n L f (listed.setIfInBounds i true) (a.put oi.dst v) → anyC P md ops C n L (f + 1) listed a := by
  intro f
  induction f with
  | zero =>
    intro listed a inv _ hr hy H
    refine ⟨List.ne_nil_of_mem hr, fun j hj => ?_⟩
    have hjn : j < n := Nat.lt_of_not_le fun h => tail_waits hs hc hn inv _ i rfl hin (mem_ready.1 hr).1 j h hj
    refine ⟨hjn, ?_⟩
    by_cases hji : j = i
    · subst hji; exact hy.qOp hi H
    · have := hdone _ _ H j (ready_mono hj hji)
      omega
  | succ f ih =>
    intro listed a inv hfree hr hy H
    have hun := (mem_ready.1 hr).1
    refine ⟨List.ne_nil_of_mem hr, fun j hj => ?_⟩
    have hjn : j < n := Nat.lt_of_not_le fun h => tail_waits hs hc hn inv _ i rfl hin hun j h hj
    refine ⟨hjn, ?_⟩
    by_cases hji : j = i
    · subst hji; exact hy.qOp hi H
    · have h1 := (H.2 j (ready_mono hj hji)).2
      obtain ⟨hjun, oj, hoj, hall⟩ := mem_ready.1 hj
      have hnot : ∀ e ∈ oj.after, Region.binds md e = true → e.on ≠ i := fun e he hb heq => by
        have h2 := hall e he hb
        rw [heq, getD_both hun] at h2
        cases h2
      have hnext := qOp_put hoj (hfree j oj hoj hji hjun hnot) (fun cs b => hsel i oi cs b hi) (fun cs b => hsel j oj cs b hoj) hy h1
      refine qOp_mono (fun a' h3 => ih _ a' (inv.set hj hjn) (fun k ok hk hki hun' hno => hfree k ok hk hki ?_ hno) (ready_mono hr (Ne.symm hji)) h3.1 ?_) hnext
      · by_cases hjk : j = k
        · subst hjk; exact hjun
        · rwa [getD_set_ne true hjk] at hun'
      · rw [Array.setIfInBounds_comm _ _ hji]
        exact h3.2

theorem anyC_lex {n g : Nat} {Lq : Act → Prop} (hsel : Region.noSelect ops = true) (hs : Region.sinkB md ops n = true) (hc : Region.chainB md ops n = true) (hn : n < ops.size) :
    ∀ (l : List Oper) (k : Nat) (listed : Array Bool) (a : Act), (∀ j, j < l.length → l[j]? = ops[k + j]?) → k + l.length = n → HeadInv md ops n listed →
    Region.lexHead md ops g l.length k listed = true → wpQuiet P ops C Lq l a →
    anyC P md ops C n (fun listed' a' => Region.seqB md ops g n listed' = true ∧ Lq a') l.length listed a
  | [], k, listed, a, _, hk, _, hB, h => by
    obtain rfl : k = n := by simpa using hk
    exact ⟨by simpa [Region.lexHead] using hB, h⟩
  | o :: l, k, listed, a, hl, hk, inv, hB, h => by
    have h0 : ops[k]? = some o := by simpa using (hl 0 (by simp)).symm
    simp only [List.length_cons, Region.lexHead, Bool.and_eq_true] at hB
    obtain ⟨⟨hr, hf⟩, hB'⟩ := hB
    have hkn : k < n := by simp only [List.length_cons] at hk; omega
    have hr' : k ∈ Region.ready md ops listed := by simpa using hr
    obtain ⟨v, hy, hK⟩ := yieldsIn_of_qOp h0 (show qOp P ops C k (wpQuiet P ops C Lq l) a by unfold qOp; simp only [h0]; exact h)
    exact anyC_first h0 (Region.noSelect_spec hsel) hs hc hn hkn (fun listed' a' hL => seqB_ready hL.1) l.length listed a inv (Region.free_spec h0 hf) hr' hy
      (anyC_lex hsel hs hc hn l (k + 1) _ _ (fun j hj => by have := hl (j + 1) (by simp; omega); simpa [Nat.add_assoc, Nat.add_comm 1 j] using this) (by simp only [List.length_cons] at hk; omega) (inv.set hr' hkn) hB' hK)

/-- The walk of the text's order, held shut: no tactic looks into it. -/
structure CQ (P : Program) (ops : Array Oper) (C : World → Prop) (Q : Act → Prop) (l : List Oper) (a : Act) : Prop where
  out : wpQuiet P ops C Q l a

/-- The first n operations quiet in the class, the others one behind the other. -/
theorem wp_region_CT (C : World → Prop) (n : Nat) {id : Nat} {Q : Exit → Act → World → Prop} {a : Act} {w : World} {l : List Oper} (hm : P.follows .mixedOrders = true) (hB : Region.lexTailB .any l.toArray n = true)
    (hC : C w.drew) (h' : CQ P l.toArray C (fun a' => ∀ w', C w' → wpList P l.toArray Q (l.drop n) a' w') (l.take n) a) : (Code.region id l.toArray true).wp P Q a w := by
  have h := h'.out
  simp only [Region.lexTailB, Bool.and_eq_true, decide_eq_true_eq] at hB
  obtain ⟨⟨⟨⟨hsel, hn⟩, hs⟩, hc⟩, hlex⟩ := hB
  have hn' : n < l.length := by simpa using hn
  have htl : (l.take n).length = n := by simp; omega
  have hdl : (l.drop n).length = l.toArray.size - n := by simp
  have inv0 : HeadInv .any l.toArray n (Array.replicate l.toArray.size false) :=
    ⟨by simp, fun j oj _ hl => (by rw [getD_replicate_false] at hl; cases hl), fun t _ ht => getD_in (by simpa using ht) (getD_replicate_false _ _)⟩
  have H := anyC_lex (md := .any) (g := l.toArray.size - n) hsel hs hc hn (l.take n) 0 _ a (fun j hj => by
    have hj' : j < n := by rw [htl] at hj; exact hj
    simp [hj']) (by simpa using htl) inv0 (by rw [htl]; exact hlex) h
  refine wp_region_any hm ?_
  have := wpAny_of_C (Q' := Q) (g := l.toArray.size - n) (fun listed a' w' hw' hL => by
    have := wpAny_of_seq (md := .any) (Q' := Q) (l.drop n) n listed a' w' (fun j => by simp [List.getElem?_drop]) (by rw [hdl]; exact hL.1) (hL.2 w' hw')
    rwa [hdl] at this) _ _ _ w.drew hC H
  rw [htl, show n + (l.toArray.size - n) = l.toArray.size by omega] at this
  exact this

/-- All quiet in the class. -/
theorem wp_region_C (C : World → Prop) {id : Nat} {Q : Exit → Act → World → Prop} {a : Act} {w : World} {l : List Oper} (hm : P.follows .mixedOrders = true) (hB : Region.lexB .any l.toArray = true)
    (hC : C w.drew) (h : CQ P l.toArray C (fun a' => ∀ w', C w' → Q .normal a' w') l a) : (Code.region id l.toArray true).wp P Q a w :=
  wp_region_quiet (C := C) hm hB hC (by simpa using h.out)

theorem cq_nil {Q : Act → Prop} {a : Act} (h : Q a) : CQ P ops C Q [] a := ⟨h⟩
theorem cq_no {Q : Act → Prop} {a : Act} {o : Oper} {rest : List Oper} (hw : Region.wanted o (yielded ops a.tmps) = false) (h : CQ P ops C Q rest (a.put o.dst undef)) : CQ P ops C Q (o :: rest) a := by
  refine ⟨?_⟩
  unfold wpQuiet
  rw [hw]
  exact h.out
theorem cq_yes {Q : Act → Prop} {a : Act} {o : Oper} {rest : List Oper} {v : Value} (hw : Region.wanted o (yielded ops a.tmps) = true) (hv : ∀ w, C w → o.quietAt P a C w v) (h : CQ P ops C Q rest (a.put o.dst v)) : CQ P ops C Q (o :: rest) a := by
  refine ⟨?_⟩
  unfold wpQuiet
  rw [hw]
  exact ⟨v, hv, h.out⟩
theorem cq_y0 {Q : Act → Prop} {a : Act} {o : Oper} {rest : List Oper} {v : Value} (hg : o.guard = none) (hv : ∀ w, C w → o.quietAt P a C w v) (h : CQ P ops C Q rest (a.put o.dst v)) : CQ P ops C Q (o :: rest) a :=
  cq_yes (by unfold Region.wanted; rw [hg]) hv h
end
end Go.Mx

namespace Go.Mx
open Go Go.RowKit
/-- A text's name. -/
def idB (b : List UInt8) : ByteArray := str (hexL (sha b))
end Go.Mx
namespace Go.Proofs.YtloogjdafhjheaaGreat
open Go.RowKit Go.Mx

def Few10Post (l : List (List UInt8)) (w : World) (e : Ending) (w' : World) : Prop :=
  ∃ b : Bool, e = .returned (.bool b) ∧ St w w' [] [] ∧ (b = true → l.length ≤ 40 ∧ (∀ x ∈ l, x.length ≤ 1500) ∧ (l.map List.length).sum ≤ 6000)
set_option maxRecDepth 100000 in
theorem few10_any (v : Value) (l : List (List UInt8)) (w : World) (hv : LL w v l) (hz : ∀ x ∈ l, x.length ≤ 140737488355328) :
    Calls Tryz.prog 5 #[v] w (Few10Post l w) := by
  obtain ⟨ao, cap, blk, off, us, rfl, h1, h2, hc, hs⟩ := hv.at
  have HC := Mx.hid (fun k hk => (⟨(hc k hk).1, (hc k hk).2⟩ : ao = some ⟨blk, off, none⟩ ∧ w.cell? ⟨blk, off + k, none⟩ = some (us k)))
  have HS := Mx.hid hs
  have HZ := Mx.hid (fun (k : Nat) (hk : k < l.length) => hz l[k] (List.getElem_mem hk))
  clear hv hc hs hz
  go_enter Tryz.func5, Tryz.ntmps5
  go_wp2_with fail
  go_loopw [3, 4] (fun x y wr => ∃ (n : Int) (i : Nat), x = .int .i64 n ∧ 0 ≤ n ∧ n ≤ 24000 ∧ i ≤ l.length ∧ i ≤ 40 ∧ y = .int .i64 i ∧ Hid (n = ((min ((l.take i).map List.length).sum 24000 : Nat) : Int)) ∧ Hid (∀ x ∈ l.take i, x.length ≤ 1500) ∧ St w wr [] []) (fun _ y _ => l.length - (intOf y).toNat)
  case atStart => exact ⟨0, 0, rfl, by omega, by omega, by omega, by omega, rfl, Mx.hid (by simp), Mx.hid (by simp), St.refl w⟩
  case round =>
    obtain ⟨n, i, rfl, hn0, hn1, hi, hi4, rfl, HN, HA, hs⟩ := hrel
    by_cases hlt : i < l.length ∧ i < 40
    · obtain ⟨hlt, hlt4⟩ := hlt
      obtain ⟨rfl, c0⟩ := HC.out i hlt
      have hx := HS.out i hlt
      have hzl := HZ.out i hlt
      obtain ⟨xo, xc, hu, xl, xm, _⟩ := id hx
      replace c0 := hs.keep c0
      rw [hu] at c0
      have HTS := Mx.hid (show ((l.take (i + 1)).map List.length).sum = ((l.take i).map List.length).sum + l[i].length by rw [List.take_succ_eq_append_getElem hlt, List.map_append, List.sum_append]; simp)
      have HTA := Mx.hid (fun (h : l[i].length ≤ 1500) => (show ∀ x ∈ l.take (i + 1), x.length ≤ 1500 by
        rw [List.take_succ_eq_append_getElem hlt]
        intro x hx
        rcases List.mem_append.1 hx with hx | hx
        · exact HA.out x hx
        · rw [List.mem_singleton.1 hx]; exact h))
      have q1 : decide ((i : Int) < 40) = true := decide_eq_true (by omega)
      have q2 : decide (i < 40) = true := decide_eq_true (by omega)
      unfold maxLen at xm
      clear hx hu
      generalize l[i].length = z at *
      by_cases hz : 1500 < z
      · have q3 : decide ((1500 : Int) < (z : Int)) = true := decide_eq_true (by omega)
        have q4 : decide (1500 < z) = true := decide_eq_true hz
        go_wp2_with (first | ((with_reducible show wpList _ _ _ _ _ _); refine wpl_want rfl ?_))
        all_goals
          go_ret
          exact ⟨false, rfl, hs, fun h => by cases h⟩
      · have q3 : decide ((1500 : Int) < (z : Int)) = false := decide_eq_false (by omega)
        have q4 : decide (1500 < z) = false := decide_eq_false hz
        go_wp2_with (first | ((with_reducible show wpList _ _ _ _ _ _); refine wpl_want rfl ?_))
        go_roundw
        case rel => exact ⟨_, i + 1, rfl, by omega, by omega, by omega, by omega, by go_num, Mx.hid (by have h1 := HN.out; rw [HTS.out]; omega), Mx.hid (HTA.out (by omega)), hs⟩
        case measure => simp [intOf]; omega
    · by_cases hp : i < l.length
      · have q1 : decide ((i : Int) < 40) = false := decide_eq_false (by omega)
        have q2 : decide (i < 40) = false := decide_eq_false (by omega)
        have q5 : decide ((l.length : Int) ≤ 40) = false := decide_eq_false (by omega)
        have q6 : decide (l.length ≤ 40) = false := decide_eq_false (by omega)
        clear hlt hi
        go_wp2_with (first | ((with_reducible show wpList _ _ _ _ _ _); refine wpl_want rfl ?_))
        go_ret
        exact ⟨false, rfl, hs, fun h => by cases h⟩
      · have q3 : decide ((i : Int) < (l.length : Int)) = false := decide_eq_false (by omega)
        have q4 : decide (i < l.length) = false := decide_eq_false (by omega)
        have HT := Mx.hid (show l.take i = l from List.take_of_length_le (by omega))
        have q5 : decide ((l.length : Int) ≤ 40) = true := decide_eq_true (by omega)
        have q6 : decide (l.length ≤ 40) = true := decide_eq_true (by omega)
        have HL := Mx.hid (show l.length ≤ 40 by omega)
        clear hlt hi
        by_cases h6 : n ≤ 6000
        · have q7 : decide (n ≤ 6000) = true := decide_eq_true h6
          have H6 := Mx.hid h6
          clear h6
          go_wp2_with (first | ((with_reducible show wpList _ _ _ _ _ _); refine wpl_want rfl ?_))
          go_ret
          refine ⟨true, rfl, hs, fun _ => ⟨HL.out, ?_, ?_⟩⟩
          · have := HA.out; rwa [HT.out] at this
          · have h1 := HN.out
            have h2 := H6.out
            rw [HT.out] at h1
            omega
        · have q7 : decide (n ≤ 6000) = false := decide_eq_false h6
          clear h6
          go_wp2_with (first | ((with_reducible show wpList _ _ _ _ _ _); refine wpl_want rfl ?_))
          go_ret
          exact ⟨false, rfl, hs, fun h => by cases h⟩
end Go.Proofs.YtloogjdafhjheaaGreat

namespace Go.Mx
open Go Go.RowKit
/-- Which text's name tells text i. -/
def kB (l : List (List UInt8)) (lie : Bool) (i : Nat) : Nat := if lie = true then (i + 1) % l.length else i
/-- What a source tells, from place i on. -/
def srcI (l : List (List UInt8)) (lie : Bool) (id : ByteArray) (i : Nat) : Option (List UInt8) :=
  if i < l.length then (if idB (l.getD (kB l lie i) []) = id then some (l.getD i []) else srcI l lie id (i + 1)) else none
termination_by l.length - i
def srcF (l : List (List UInt8)) (lie : Bool) (id : ByteArray) : Option (List UInt8) := srcI l lie id 0
def ids1 (l : List (List UInt8)) : List ByteArray := l.map idB
theorem kB_lt {l : List (List UInt8)} {lie : Bool} {i : Nat} (h : i < l.length) : kB l lie i < l.length := by
  unfold kB
  split
  · exact Nat.mod_lt _ (by omega)
  · exact h
theorem srcI_mem {l : List (List UInt8)} {lie : Bool} {id : ByteArray} {b : List UInt8} : ∀ {i : Nat}, srcI l lie id i = some b → b ∈ l := by
  intro i
  induction h : l.length - i generalizing i with
  | zero =>
    intro hs
    rw [srcI, if_neg (by omega)] at hs
    cases hs
  | succ n ih =>
    intro hs
    rw [srcI] at hs
    split at hs
    · rename_i hlt
      split at hs
      · cases hs
        rw [List.getD_eq_getElem?_getD, List.getElem?_eq_getElem hlt]
        exact List.getElem_mem hlt
      · exact ih (by omega) hs
    · cases hs
/-- The memory of a source: the texts, does it lie, their names. -/
structure SM (w : World) (g2 g3 g5 : Nat) (l : List (List UInt8)) (lie : Bool) : Prop where
  ll : ∃ lv, w.cell? ⟨g2, 0, none⟩ = some lv ∧ LL w lv l
  lc : w.cell? ⟨g3, 0, none⟩ = some (.bool lie)
  ic : ∃ iv, w.cell? ⟨g5, 0, none⟩ = some iv ∧ Sl w 1 iv l.length (ss (ids1 l))
theorem SM.keep {w0 w : World} {R : List Row} {Q : List Rd} {g2 g3 g5 : Nat} {l : List (List UInt8)} {lie : Bool} (h : SM w0 g2 g3 g5 l lie) (hs : St w0 w R Q) : SM w g2 g3 g5 l lie where
  ll := by obtain ⟨lv, h1, h2⟩ := h.ll; exact ⟨lv, hs.keep h1, LL.old hs h2⟩
  lc := hs.keep h.lc
  ic := by obtain ⟨lv, h1, h2⟩ := h.ic; exact ⟨lv, hs.keep h1, hs.old h2⟩
end Go.Mx
namespace Go.Proofs.YtloogjdafhjheaaGreat
open Go.RowKit Go.Mx

def Few12Post (l : List ByteArray) (w : World) (e : Ending) (w' : World) : Prop := (∃ b : Bool, e = .returned (.bool b) ∧ (b = true → l.length ≤ 20)) ∧ w = w'
theorem few12_any (v : Value) (l : List ByteArray) (w : World) (hv : Sl w 1 v l.length (ss l)) :
    Calls Tryz.prog 6 #[v] w (Few12Post l w) := by
  obtain ⟨ao, cap, blk, off, rfl, h1, h2, _, hc⟩ := hv.txt
  clear hv
  have HC := Mx.hid hc
  clear hc
  go_enter Tryz.func6, Tryz.ntmps6
  go_wp2_with fail
  go_loop [3] (fun x => ∃ i : Nat, i ≤ l.length ∧ i ≤ 20 ∧ x = .int .i64 i) (fun x => l.length - (intOf x).toNat)
  case atStart => exact ⟨0, by omega, by omega, rfl⟩
  case round =>
    obtain ⟨i, hi, h4, rfl⟩ := hrel
    by_cases hlt : i < l.length ∧ i < 20
    · obtain ⟨hlt, h400⟩ := hlt
      obtain ⟨rfl, c1⟩ := HC.out i hlt
      have hii : (i : Int) < (l.length : Int) := by omega
      have hjj : (i : Int) < 20 := by omega
      generalize hz : l[i].size = z at *
      by_cases hz100 : 100 < z
      · have hzz : (100 : Int) < (z : Int) := by omega
        go_wp2_with fail
        go_ret
        exact ⟨⟨false, rfl, by simp⟩, rfl⟩
      · have hzz : (z : Int) ≤ 100 := by omega
        go_wp2_with fail
        go_round
        case rel => exact ⟨i + 1, by omega, by omega, by go_num⟩
        case measure => simp [intOf]; omega
    · by_cases hlt2 : i < l.length
      · have hii : decide ((i : Int) < (l.length : Int)) = true := decide_eq_true (by omega)
        have hjj : decide ((i : Int) < 20) = false := decide_eq_false (by omega)
        have hkk : decide ((l.length : Int) ≤ 20) = false := decide_eq_false (by omega)
        go_wp2_with fail
        go_ret
        exact ⟨⟨false, rfl, by simp⟩, rfl⟩
      · have hii : decide ((i : Int) < (l.length : Int)) = false := decide_eq_false (by omega)
        have hkk : decide ((l.length : Int) ≤ 20) = true := decide_eq_true (by omega)
        go_wp2_with fail
        go_ret
        exact ⟨⟨_, rfl, fun _ => by omega⟩, rfl⟩
end Go.Proofs.YtloogjdafhjheaaGreat

namespace Go.Proofs.YtloogjdafhjheaaGreat
open Go.RowKit Go.Mx
def SourceAns (o : Option (List UInt8)) (w : World) (e : Ending) (w' : World) : Prop :=
  match o with
  | some b => ∃ v, e = .returned (.tuple #[v, .bool true]) ∧ St w w' [(⟨v, 5, 1, (b).length, bs (b)⟩ : Row)] []
  | none => e = .returned (.tuple #[.slice none 0 0, .bool false]) ∧ St w w' [] []
end Go.Proofs.YtloogjdafhjheaaGreat
