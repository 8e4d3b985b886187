/- Sorted texts: plain facts. -/
import Derived.Test.YtloogjdafhjheaaGreatJ1Lib3
import Derived.Lib.SlicesCompact
namespace Go.Mx
open Go

def lt (s t : ByteArray) : Bool := Op.bytesLess s.toList t.toList
theorem lt_irrefl (s : ByteArray) : lt s s = false := bl_irrefl _
theorem lt_asymm {s t : ByteArray} (h : lt s t = true) : lt t s = false := bl_asymm _ _ h
theorem lt_total {s t : ByteArray} (h : lt s t = false) (h' : lt t s = false) : s = t := toL_inj (bl_total _ _ h h')
theorem lt_trans {s t u : ByteArray} (h : lt s t = true) (h' : lt t u = true) : lt s u = true := bl_trans _ _ _ h h'
/-- a ≤ b, b ≤ c. -/
theorem le_trans' {a b c : ByteArray} (h : lt b a = false) (h' : lt c b = false) : lt c a = false := by
  cases hc : lt c a with
  | false => rfl
  | true =>
    cases hb : lt a b with
    | false => rw [lt_total hb h] at hc; rw [hc] at h'; cases h'
    | true => rw [lt_trans hc hb] at h'; cases h'
theorem lt_le {a b c : ByteArray} (h : lt a b = true) (h' : lt c b = false) : lt a c = true := by
  cases hc : lt a c with
  | true => rfl
  | false => rw [le_trans' h' hc] at h; cases h

def Sorted (l : List ByteArray) : Prop := l.Pairwise fun a b => lt b a = false
def Strict (l : List ByteArray) : Prop := l.Pairwise fun a b => lt a b = true
theorem sorted_eq {l m : List ByteArray} (hl : Sorted l) (hm : Sorted m) (h : l.Perm m) : l = m :=
  h.eq_of_pairwise (fun _ _ _ _ h1 h2 => lt_total h2 h1) hl hm
theorem Strict.sorted {l : List ByteArray} (h : Strict l) : Sorted l := h.imp fun h => lt_asymm h
theorem Strict.nodup {l : List ByteArray} (h : Strict l) : l.Nodup := h.imp fun {a b} h e => by subst e; rw [lt_irrefl] at h; cases h
theorem strict_eq {l m : List ByteArray} (hl : Strict l) (hm : Strict m) (h : ∀ x, x ∈ l ↔ x ∈ m) : l = m :=
  sorted_eq hl.sorted hm.sorted ((List.perm_ext_iff_of_nodup hl.nodup hm.nodup).2 h)

def sortL (l : List ByteArray) : List ByteArray := l.mergeSort fun a b => !lt b a
theorem sortL_perm (l : List ByteArray) : (sortL l).Perm l := List.mergeSort_perm _ _
theorem sortL_sorted (l : List ByteArray) : Sorted (sortL l) := by
  have := List.pairwise_mergeSort (le := fun a b => !lt b a) (fun a b c h h' => by
    simp only [Bool.not_eq_true'] at h h' ⊢
    exact le_trans' h h') (fun a b => by
    cases h : lt b a with
    | false => rfl
    | true => rw [lt_asymm h]; rfl) l
  exact this.imp fun h => by simpa using h
theorem sortL_len (l : List ByteArray) : (sortL l).length = l.length := (sortL_perm l).length_eq
theorem eq_sortL {l m : List ByteArray} (h : Sorted m) (hp : m.Perm l) : m = sortL l := sorted_eq h (sortL_sorted l) (hp.trans (sortL_perm l).symm)

/-- One more text put into its place. -/
theorem ins_sorted {l : List ByteArray} (h : Sorted l) (k : Nat) (x : ByteArray) (h1 : ∀ y ∈ l.take k, lt x y = false) (h2 : ∀ y ∈ l.drop k, lt y x = false) : Sorted (l.take k ++ ([x] ++ l.drop k)) := by
  refine List.pairwise_append.2 ⟨h.sublist (List.take_sublist _ _), List.pairwise_append.2 ⟨by simp, h.sublist (List.drop_sublist _ _), ?_⟩, ?_⟩
  · intro a ha b hb
    rw [List.mem_singleton.1 ha]
    exact h2 b hb
  · intro a ha b hb
    rcases List.mem_append.1 hb with hb | hb
    · rw [List.mem_singleton.1 hb]; exact h1 a ha
    · have h := h
      rw [← List.take_append_drop k l] at h
      exact (List.pairwise_append.1 h).2.2 a ha b hb
theorem ins_perm (l : List ByteArray) (k : Nat) (x : ByteArray) : (l.take k ++ ([x] ++ l.drop k)).Perm (l ++ [x]) := by
  have : (l.take k ++ ([x] ++ l.drop k)).Perm (l.take k ++ (l.drop k ++ [x])) := List.Perm.append_left _ List.perm_append_comm
  refine this.trans ?_
  rw [← List.append_assoc, List.take_append_drop]
theorem sortL_ins (l : List ByteArray) (i : Nat) (hi : i < l.length) (k : Nat) (h1 : ∀ y ∈ (sortL (l.take i)).take k, lt l[i] y = false) (h2 : ∀ y ∈ (sortL (l.take i)).drop k, lt y l[i] = false) :
    (sortL (l.take i)).take k ++ ([l[i]] ++ (sortL (l.take i)).drop k) = sortL (l.take (i + 1)) := by
  refine eq_sortL (ins_sorted (sortL_sorted _) k _ h1 h2) ?_
  rw [List.take_succ_eq_append_getElem hi]
  exact (ins_perm _ _ _).trans (List.Perm.append_right _ (sortL_perm _))
theorem Sorted.take_le {l : List ByteArray} (h : Sorted l) {k : Nat} (hk : 0 < k) (hl : k ≤ l.length) {x : ByteArray} (hx : lt x (l[k - 1]'(by omega)) = false) : ∀ y ∈ l.take k, lt x y = false := by
  intro y hy
  obtain ⟨j, hj, rfl⟩ := List.mem_take_iff_getElem.1 hy
  by_cases he : j = k - 1
  · subst he; exact hx
  · exact le_trans' (List.pairwise_iff_getElem.1 h j (k - 1) (by omega) (by omega) (by omega)) hx

/-- What holds of a merge under way. -/
structure MInv (acc la lb A B : List ByteArray) : Prop where
  sa : Sorted la
  sb : Sorted lb
  sc : Sorted acc
  le : ∀ x ∈ acc, ∀ y ∈ la ++ lb, lt y x = false
  perm : (acc ++ (la ++ lb)).Perm (A ++ B)
theorem MInv.start {A B : List ByteArray} (ha : Sorted A) (hb : Sorted B) : MInv [] A B A B := ⟨ha, hb, List.Pairwise.nil, by simp, List.Perm.refl _⟩
theorem MInv.swap {acc la lb A B : List ByteArray} (h : MInv acc la lb A B) : MInv acc lb la A B :=
  ⟨h.sb, h.sa, h.sc, fun x hx y hy => h.le x hx y (by simpa [or_comm] using hy), (List.Perm.append_left _ List.perm_append_comm).trans h.perm⟩
theorem MInv.len {acc la lb A B : List ByteArray} (h : MInv acc la lb A B) : acc.length + (la.length + lb.length) = A.length + B.length := by
  have := h.perm.length_eq
  simpa using this
theorem MInv.step {acc la lb A B : List ByteArray} {x y : ByteArray} (h : MInv acc (x :: la) (y :: lb) A B) (hle : lt y x = false) : MInv (acc ++ [x]) la (y :: lb) A B := by
  obtain ⟨sa, sb, sc, le, perm⟩ := h
  refine ⟨(List.pairwise_cons.1 sa).2, sb, List.pairwise_append.2 ⟨sc, by simp, fun a ha b hb => ?_⟩, ?_, ?_⟩
  · rw [List.mem_singleton.1 hb]; exact le a ha x (by simp)
  · intro a ha b hb
    rcases List.mem_append.1 ha with ha | ha
    · exact le a ha b (by simp at hb ⊢; rcases hb with h | h | h <;> simp [h])
    · rw [List.mem_singleton.1 ha]
      rcases List.mem_append.1 hb with hb | hb
      · exact (List.pairwise_cons.1 sa).1 b hb
      · rcases List.mem_cons.1 hb with rfl | hb
        · exact hle
        · exact le_trans' hle ((List.pairwise_cons.1 sb).1 b hb)
  · simpa using perm
theorem MInv.done {acc la lb A B : List ByteArray} (h : MInv acc la lb A B) (he : la = [] ∨ lb = []) : acc ++ la ++ lb = sortL (A ++ B) := by
  refine eq_sortL ?_ (by simpa using h.perm)
  rw [List.append_assoc]
  refine List.pairwise_append.2 ⟨h.sc, ?_, h.le⟩
  rcases he with rfl | rfl
  · exact h.sb
  · rw [List.append_nil]; exact h.sa

theorem sortL_app (A B : List ByteArray) : sortL (sortL A ++ sortL B) = sortL (A ++ B) :=
  sorted_eq (sortL_sorted _) (sortL_sorted _) (((sortL_perm _).trans ((sortL_perm A).append (sortL_perm B))).trans (sortL_perm _).symm)
theorem sortL_small {l : List ByteArray} (h : l.length < 2) : sortL l = l := by
  refine (eq_sortL ?_ (List.Perm.refl _)).symm
  match l, h with
  | [], _ => exact List.Pairwise.nil
  | [a], _ => simp [Sorted]

/-- Each once. -/
def uniqL (l : List ByteArray) : List ByteArray := (Lib.compact ((sortL l).map fun s => s.data.toList)).map str
theorem uniq_aux (d : Array (List UInt8)) (hs : ∀ i j, i < j → j < d.size → Op.bytesLess d[j]! d[i]! = false) : ∀ m, m ≤ d.size →
    (∀ x, x ∈ Lib.compactUpTo d m ↔ ∃ j, j < m ∧ d[j]! = x) ∧ (Lib.compactUpTo d m).Pairwise fun a b => Op.bytesLess a b = true
  | 0, _ => by simp [Lib.compactUpTo]
  | m + 1, hm => by
    obtain ⟨h1, h2⟩ := uniq_aux d hs m (by omega)
    rw [Lib.compactUpTo_succ]
    by_cases hk : Lib.keeps d m = true
    · rw [if_pos hk]
      refine ⟨fun x => ?_, List.pairwise_append.2 ⟨h2, by simp, fun a ha b hb => ?_⟩⟩
      · rw [List.mem_append, h1, List.mem_singleton]
        constructor
        · rintro (⟨j, hj, rfl⟩ | rfl)
          · exact ⟨j, by omega, rfl⟩
          · exact ⟨m, by omega, rfl⟩
        · rintro ⟨j, hj, rfl⟩
          by_cases he : j = m
          · subst he; exact .inr rfl
          · exact .inl ⟨j, by omega, rfl⟩
      · rw [List.mem_singleton.1 hb]
        obtain ⟨j, hj, rfl⟩ := (h1 a).1 ha
        have hne : d[m]! ≠ d[m - 1]! := by
          unfold Lib.keeps at hk
          rcases of_decide_eq_true hk with h | h
          · omega
          · exact h
        cases hc : Op.bytesLess d[j]! d[m]! with
        | true => rfl
        | false =>
          exfalso
          have e : d[j]! = d[m]! := bl_total _ _ hc (hs j m (by omega) (by omega))
          by_cases hjm : j = m - 1
          · subst hjm; exact hne e.symm
          · have h3 := hs j (m - 1) (by omega) (by omega)
            have h4 := hs (m - 1) m (by omega) (by omega)
            rw [e] at h3
            exact hne (bl_total _ _ h4 h3)
    · rw [if_neg hk, List.append_nil]
      have hk : Lib.keeps d m = false := by simpa using hk
      unfold Lib.keeps at hk
      have hk := of_decide_eq_false hk
      have hm0 : m ≠ 0 := fun h => hk (.inl h)
      have he : d[m]! = d[m - 1]! := Classical.byContradiction fun h => hk (.inr h)
      refine ⟨fun x => ?_, h2⟩
      rw [h1]
      constructor
      · rintro ⟨j, hj, rfl⟩; exact ⟨j, by omega, rfl⟩
      · rintro ⟨j, hj, rfl⟩
        by_cases hjm : j = m
        · subst hjm; exact ⟨j - 1, by omega, he.symm⟩
        · exact ⟨j, by omega, rfl⟩
theorem compact_facts {l : List ByteArray} (h : Sorted l) : (∀ x, x ∈ (Lib.compact (l.map fun s => s.data.toList)).map str ↔ x ∈ l) ∧ Strict ((Lib.compact (l.map fun s => s.data.toList)).map str) := by
  have hg : ∀ i (hi : i < l.length), (l.map fun s => s.data.toList).toArray[i]! = l[i].data.toList := by
    intro i hi
    rw [getElem!_pos _ i (by simpa using hi)]
    simp
  obtain ⟨h1, h2⟩ := uniq_aux (l.map fun s => s.data.toList).toArray (by
    intro i j hij hj
    have hj : j < l.length := by simpa using hj
    rw [hg i (by omega), hg j hj, ← ByteArray.toList_eq, ← ByteArray.toList_eq]
    exact List.pairwise_iff_getElem.1 h i j (by omega) hj hij) (l.map fun s => s.data.toList).length (by simp)
  refine ⟨fun x => ?_, ?_⟩
  · unfold Lib.compact
    rw [List.mem_map]
    constructor
    · rintro ⟨y, hy, rfl⟩
      obtain ⟨j, hj, rfl⟩ := (h1 y).1 hy
      have hj : j < l.length := by simpa using hj
      rw [hg j hj, str_toList]
      exact List.getElem_mem hj
    · intro hx
      obtain ⟨j, hj, rfl⟩ := List.mem_iff_getElem.1 hx
      exact ⟨_, (h1 _).2 ⟨j, by simpa using hj, rfl⟩, by rw [hg j hj, str_toList]⟩
  · unfold Lib.compact Strict
    rw [List.pairwise_map]
    exact h2.imp fun {a b} h => by unfold lt; rw [str_toL, str_toL]; exact h
theorem mem_uniqL (l : List ByteArray) (x : ByteArray) : x ∈ uniqL l ↔ x ∈ l := ((compact_facts (sortL_sorted l)).1 x).trans (sortL_perm l).mem_iff
theorem uniqL_strict (l : List ByteArray) : Strict (uniqL l) := (compact_facts (sortL_sorted l)).2
theorem eq_uniqL {l m : List ByteArray} (h : Strict m) (hm : ∀ x, x ∈ m ↔ x ∈ l) : m = uniqL l := strict_eq h (uniqL_strict l) fun x => (hm x).trans (mem_uniqL l x).symm
theorem uniqL_ext {l m : List ByteArray} (h : ∀ x, x ∈ l ↔ x ∈ m) : uniqL l = uniqL m := eq_uniqL (uniqL_strict l) fun x => (mem_uniqL l x).trans (h x)
theorem ins_strict {l : List ByteArray} (h : Strict l) (k : Nat) (x : ByteArray) (h1 : ∀ y ∈ l.take k, lt y x = true) (h2 : ∀ y ∈ l.drop k, lt x y = true) : Strict (l.take k ++ ([x] ++ l.drop k)) := by
  refine List.pairwise_append.2 ⟨h.sublist (List.take_sublist _ _), List.pairwise_append.2 ⟨by simp, h.sublist (List.drop_sublist _ _), ?_⟩, ?_⟩
  · intro a ha b hb
    rw [List.mem_singleton.1 ha]
    exact h2 b hb
  · intro a ha b hb
    rcases List.mem_append.1 hb with hb | hb
    · rw [List.mem_singleton.1 hb]; exact h1 a ha
    · have h := h
      rw [← List.take_append_drop k l] at h
      exact (List.pairwise_append.1 h).2.2 a ha b hb

/-- Is it there? -/
noncomputable def hasL (l : List ByteArray) (s : ByteArray) : Bool := @decide (s ∈ l) (Classical.propDecidable _)
theorem hasL_iff {l : List ByteArray} {s : ByteArray} : hasL l s = true ↔ s ∈ l := by unfold hasL; exact @decide_eq_true_iff _ (Classical.propDecidable _)
theorem hasL_not {l : List ByteArray} {s : ByteArray} (h : s ∉ l) : hasL l s = false := by
  cases hh : hasL l s with
  | false => rfl
  | true => exact absurd (hasL_iff.1 hh) h

theorem cmpL_lt0 (s t : ByteArray) : decide (cmpL s.toList t.toList < 0) = lt s t := by
  unfold cmpL lt
  by_cases h : Op.bytesLess s.toList t.toList = true
  · rw [if_pos h, h]; rfl
  · rw [if_neg h]
    have h : Op.bytesLess s.toList t.toList = false := by simpa using h
    rw [h]
    split <;> rfl

theorem cmpL_gt0 (s t : ByteArray) : decide (0 < cmpL s.toList t.toList) = lt t s := by
  rw [← cmpL_lt0, cmpL_neg s.toList t.toList]
  exact decide_eq_decide.2 (by omega)
theorem cmpL_ge0 (s t : ByteArray) : decide (0 ≤ cmpL s.toList t.toList) = !lt s t := by
  rw [← cmpL_lt0, ← decide_not]
  exact decide_eq_decide.2 (by omega)

/-- How often it is there. -/
def cnt (l : List ByteArray) (s : ByteArray) : Nat := l.countP fun x => decide (x = s)
theorem cnt_nil (s : ByteArray) : cnt [] s = 0 := rfl
theorem cnt_step {l : List ByteArray} {i : Nat} (h : i < l.length) (s : ByteArray) : cnt (l.take (i + 1)) s = cnt (l.take i) s + if l[i] = s then 1 else 0 := by
  unfold cnt
  rw [List.take_succ_eq_append_getElem h, List.countP_append]
  congr 1
  by_cases hx : l[i] = s <;> simp [hx]
theorem cnt_le (l : List ByteArray) (s : ByteArray) : cnt l s ≤ l.length := List.countP_le_length
theorem cnt_pos (l : List ByteArray) (s : ByteArray) : 0 < cnt l s ↔ s ∈ l := by
  unfold cnt
  rw [List.countP_pos_iff]
  constructor
  · rintro ⟨x, hx, hd⟩
    rw [← of_decide_eq_true hd]; exact hx
  · intro h; exact ⟨s, h, by simp⟩
theorem cnt_sort (l : List ByteArray) (s : ByteArray) : cnt (sortL l) s = cnt l s := (sortL_perm l).countP_eq _
theorem cnt_strict : ∀ {l : List ByteArray} (_ : Strict l) (s : ByteArray), cnt l s ≤ 1
  | [], _, _ => by simp [cnt]
  | a :: l, h, s => by
    have h2 := cnt_strict (List.pairwise_cons.1 h).2 s
    have e : cnt (a :: l) s = cnt l s + if a = s then 1 else 0 := by
      unfold cnt
      rw [List.countP_cons]
      simp
    by_cases hx : a = s
    · subst hx
      have : ¬ 0 < cnt l a := by
        rw [cnt_pos]
        intro hm
        have := (List.pairwise_cons.1 h).1 a hm
        rw [lt_irrefl] at this
        cases this
      rw [e, if_pos rfl]; omega
    · rw [e, if_neg hx]; omega
theorem cnt_uniq (l : List ByteArray) (s : ByteArray) : cnt (uniqL l) s = min (cnt l s) 1 := by
  have h1 := cnt_strict (uniqL_strict l) s
  have h2 : 0 < cnt (uniqL l) s ↔ 0 < cnt l s := by rw [cnt_pos, cnt_pos, mem_uniqL]
  omega
theorem sortL_idem (l : List ByteArray) : sortL (sortL l) = sortL l := (eq_sortL (sortL_sorted l) (List.Perm.refl _)).symm
theorem uniqL_sort (l : List ByteArray) : uniqL (sortL l) = uniqL l := uniqL_ext fun _ => (sortL_perm l).mem_iff
end Go.Mx
