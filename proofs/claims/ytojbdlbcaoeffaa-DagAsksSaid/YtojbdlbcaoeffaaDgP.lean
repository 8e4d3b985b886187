/- What the document's graph answers: the plain mathematics (no program in sight). -/
import Derived.Test.YtojbdlbcaoeffaaDagQ
import Derived.Test.YtojbdlbcaoeffaaDagR
namespace Go.Mx
open Go Go.RowKit

theorem fnd_none {L : List Nd} {k : ByteArray} : fnd L k = none ↔ k ∉ L.map Prod.fst := by
  induction L with
  | nil => simp [fnd]
  | cons n L ih =>
    rw [fnd, List.map_cons, List.mem_cons]
    split
    · rename_i h
      simp [h]
    · rename_i h
      rw [ih]
      simp [Ne.symm h]
theorem wf_nodup {L : List Nd} (h : WF L) : (L.map Prod.fst).Nodup := by
  induction h with
  | nil => exact List.nodup_nil
  | @snoc L n h hn hne hs hp h0 ih =>
    rw [List.map_append, List.map_cons, List.map_nil]
    refine List.nodup_append.2 ⟨ih, by simp, fun a ha b hb e => ?_⟩
    rw [List.mem_singleton.1 hb] at e
    subst e
    exact fnd_none.1 hn ha
theorem fnd_ix {L : List Nd} (hn : (L.map Prod.fst).Nodup) {j : Nat} (hj : j < L.length) : fnd L L[j].1 = some L[j].2 := by
  induction L generalizing j with
  | nil => simp at hj
  | cons n L ih =>
    rw [List.map_cons, List.nodup_cons] at hn
    rw [fnd]
    cases j with
    | zero => simp
    | succ j =>
      have hj' : j < L.length := by simpa using hj
      rw [List.getElem_cons_succ, if_neg, ih hn.2 hj']
      intro e
      exact hn.1 (e ▸ List.mem_map.2 ⟨_, List.getElem_mem hj', rfl⟩)
theorem ix_inj {L : List Nd} (hn : (L.map Prod.fst).Nodup) {i j : Nat} (hi : i < L.length) (hj : j < L.length) (h : L[i].1 = L[j].1) : i = j := by
  have hi' : i < (L.map Prod.fst).length := by simpa using hi
  have hj' : j < (L.map Prod.fst).length := by simpa using hj
  exact (List.getElem_inj (h₀ := hi') (h₁ := hj') hn).1 (by simpa using h)
theorem ix_of {L : List Nd} {x : ByteArray} (h : x ∈ L.map Prod.fst) : ∃ (j : Nat) (hj : j < L.length), L[j].1 = x := by
  obtain ⟨n, hn, rfl⟩ := List.mem_map.1 h
  obtain ⟨j, hj, rfl⟩ := List.mem_iff_getElem.1 hn
  exact ⟨j, hj, rfl⟩
theorem wf_par_ix {L : List Nd} (h : WF L) : ∀ {j : Nat} (hj : j < L.length) {p : ByteArray}, p ∈ L[j].2.1 → ∃ (i : Nat) (hi : i < L.length), i < j ∧ L[i].1 = p := by
  induction h with
  | nil => intro j hj; simp at hj
  | @snoc L n h hn hne hs hp h0 ih =>
    intro j hj p hpj
    by_cases hlt : j < L.length
    · rw [List.getElem_append_left hlt] at hpj
      obtain ⟨i, hi, hij, he⟩ := ih hlt hpj
      exact ⟨i, by simp; omega, hij, by rw [List.getElem_append_left hi]; exact he⟩
    · have hj2 : j = L.length := by simp at hj; omega
      subst hj2
      rw [List.getElem_append_right (Nat.le_refl _)] at hpj
      simp only [Nat.sub_self, List.getElem_cons_zero] at hpj
      obtain ⟨m, hm, _⟩ := hp p hpj
      obtain ⟨i, hi, he⟩ := ix_of (fnd_key hm)
      exact ⟨i, by simp; omega, hi, by rw [List.getElem_append_left hi]; exact he⟩

/-- Which commits are marked. -/
def flg (L : List Nd) (S : List ByteArray) : List Int := L.map fun n => if memB S n.1 = true then 1 else 0
theorem flg_len (L : List Nd) (S : List ByteArray) : (flg L S).length = L.length := by simp [flg]
theorem flg_nil (L : List Nd) : flg L [] = List.replicate L.length 0 := by
  unfold flg
  rw [List.eq_replicate_iff]
  refine ⟨by simp, fun b hb => ?_⟩
  obtain ⟨n, _, rfl⟩ := List.mem_map.1 hb
  rfl
theorem flg_get {L : List Nd} {S : List ByteArray} {j : Nat} (hj : j < L.length) : (flg L S)[j]'(by rw [flg_len]; exact hj) = if memB S L[j].1 = true then 1 else 0 := by
  simp only [flg, List.getElem_map]
theorem flg_set {L : List Nd} (hn : (L.map Prod.fst).Nodup) {S : List ByteArray} {j : Nat} (hj : j < L.length) : (flg L S).set j 1 = flg L (S ++ [L[j].1]) := by
  refine List.ext_getElem (by simp [flg_len]) fun i h1 h2 => ?_
  have hi : i < L.length := by simpa [flg_len] using h1
  rw [List.getElem_set, flg_get hi]
  by_cases hij : j = i
  · subst hij
    rw [if_pos rfl, flg_get hj, if_pos (memB_iff.2 (by simp))]
  · rw [if_neg hij, flg_get hi]
    have : memB (S ++ [L[j].1]) L[i].1 = memB S L[i].1 := by
      rw [Bool.eq_iff_iff, memB_iff, memB_iff, List.mem_append, List.mem_singleton]
      exact or_iff_left fun e => hij (ix_inj hn hi hj e).symm
    rw [this]

/-- The document's way to the ancestors: places from i on have been looked at. -/
structure AI (L : List Nd) (ids S out : List ByteArray) (i : Nat) : Prop where
  sub : ∀ x ∈ S, ∃ id ∈ ids, Anc L x id
  ids : ∀ id ∈ ids, id ∈ S
  inn : ∀ x ∈ S, x ∈ L.map Prod.fst
  par : ∀ (j : Nat) (h : j < L.length), i ≤ j → L[j].1 ∈ S → ∀ p ∈ L[j].2.1, p ∈ S
  out : ∀ x, x ∈ out ↔ ∃ (j : Nat) (h : j < L.length), i ≤ j ∧ L[j].1 = x ∧ x ∈ S
theorem AI.start {L : List Nd} {ids : List ByteArray} (h : ∀ id ∈ ids, id ∈ L.map Prod.fst) : AI L ids ids [] L.length where
  sub x hx := ⟨x, hx, .refl x⟩
  ids _ h := h
  inn := h
  par j h1 h2 := by omega
  out x := ⟨fun h => (by cases h), fun ⟨j, h1, h2, _⟩ => by omega⟩
theorem AI.skip {L : List Nd} {ids S out : List ByteArray} {i : Nat} (h : AI L ids S out (i + 1)) (hi : i < L.length) (hx : L[i].1 ∉ S) : AI L ids S out i where
  sub := h.sub
  ids := h.ids
  inn := h.inn
  par j h1 h2 h3 := by
    by_cases hj : i = j
    · subst hj; exact absurd h3 hx
    · exact h.par j h1 (by omega) h3
  out x := by
    rw [h.out x]
    constructor
    · rintro ⟨j, h1, h2, h3⟩
      exact ⟨j, h1, by omega, h3⟩
    · rintro ⟨j, h1, h2, h3, h4⟩
      refine ⟨j, h1, ?_, h3, h4⟩
      rcases Nat.lt_or_ge i j with hj | hj
      · exact hj
      · have hj2 : j = i := by omega
        subst hj2
        rw [← h3] at h4
        exact absurd h4 hx
theorem AI.take {L : List Nd} (hw : WF L) {ids S out : List ByteArray} {i : Nat} (h : AI L ids S out (i + 1)) (hi : i < L.length) (hx : L[i].1 ∈ S) : AI L ids (S ++ L[i].2.1) (out ++ [L[i].1]) i := by
  have hn := wf_nodup hw
  have hnew : ∀ (j : Nat) (hj : j < L.length), i ≤ j → L[j].1 ∈ S ++ L[i].2.1 → L[j].1 ∈ S := by
    intro j hj hij hm
    rcases List.mem_append.1 hm with hm | hm
    · exact hm
    · obtain ⟨k, hk, hki, he⟩ := wf_par_ix hw hi hm
      have := ix_inj hn hk hj he
      omega
  refine ⟨fun x hxS => ?_, fun id hid => List.mem_append_left _ (h.ids id hid), fun x hxS => ?_, fun j h1 h2 h3 p hp => ?_, fun x => ?_⟩
  · rcases List.mem_append.1 hxS with hxS | hxS
    · exact h.sub x hxS
    · obtain ⟨id, hid, ha⟩ := h.sub _ hx
      exact ⟨id, hid, (Anc.step (fnd_ix hn hi) hxS (.refl x)).trans ha⟩
  · rcases List.mem_append.1 hxS with hxS | hxS
    · exact h.inn x hxS
    · obtain ⟨k, hk, _, rfl⟩ := wf_par_ix hw hi hxS
      exact List.mem_map.2 ⟨_, List.getElem_mem hk, rfl⟩
  · have h4 := hnew j h1 h2 h3
    by_cases hj : i = j
    · subst hj; exact List.mem_append_right _ hp
    · exact List.mem_append_left _ (h.par j h1 (by omega) h4 p hp)
  · rw [List.mem_append, h.out x, List.mem_singleton]
    constructor
    · rintro (⟨j, h1, h2, h3, h4⟩ | rfl)
      · exact ⟨j, h1, by omega, h3, List.mem_append_left _ h4⟩
      · exact ⟨i, hi, Nat.le_refl _, rfl, List.mem_append_left _ hx⟩
    · rintro ⟨j, h1, h2, rfl, h4⟩
      by_cases hj : i = j
      · subst hj; exact .inr rfl
      · exact .inl ⟨j, h1, by omega, rfl, hnew j h1 h2 h4⟩
theorem AI.done {L : List Nd} (hw : WF L) {ids S out : List ByteArray} (h : AI L ids S out 0) : Clo L ids (uniqL out) := by
  have hn := wf_nodup hw
  have hcl : ∀ {x y : ByteArray}, Anc L x y → y ∈ S → x ∈ S := by
    intro x y ha
    induction ha with
    | refl => exact id
    | @step p y q h1 h2 _ ih =>
      intro hy
      obtain ⟨j, hj, rfl⟩ := ix_of (h.inn _ hy)
      rw [fnd_ix hn hj] at h1
      cases h1
      exact ih (h.par j hj (Nat.zero_le _) hy _ h2)
  refine ⟨fun i hi => ?_, fun x => ?_⟩
  · obtain ⟨j, hj, rfl⟩ := ix_of (h.inn _ (h.ids i hi))
    exact ⟨_, fnd_ix hn hj⟩
  · rw [mem_uniqL, h.out x]
    constructor
    · rintro ⟨j, h1, h2, h3, h4⟩
      exact h.sub x h4
    · rintro ⟨i, hi, ha⟩
      have hx := hcl ha (h.ids i hi)
      obtain ⟨j, hj, he⟩ := ix_of (h.inn _ hx)
      exact ⟨j, hj, Nat.zero_le _, he, hx⟩
theorem AI.few {L : List Nd} {ids S out : List ByteArray} {i : Nat} (h : AI L ids S out i) : ∀ x ∈ out, x ∈ L.map Prod.fst := by
  intro x hx
  obtain ⟨j, h1, _, rfl, _⟩ := (h.out x).1 hx
  exact List.mem_map.2 ⟨_, List.getElem_mem h1, rfl⟩

theorem tops_near {L : List Nd} {ids M N U : List ByteArray} (hM : Clo L ids M) (hU : ∀ x, x ∈ U ↔ ∃ i ∈ ids, ∃ p ∈ parsG L i, Anc L x p) (hN : ∀ x, x ∈ N ↔ x ∈ ids ∧ x ∉ U) : Near L M N := by
  have hpar : ∀ {i : ByteArray} {n : List ByteArray × Int}, fnd L i = some n → parsG L i = n.1 := fun h => by unfold parsG; rw [h]
  intro x
  rw [hN x]
  constructor
  · rintro ⟨hx, hxu⟩
    refine ⟨(hM.2 x).2 ⟨x, hx, .refl x⟩, fun m hm n hn hxn => hxu ?_⟩
    obtain ⟨i, hi, ha⟩ := (hM.2 m).1 hm
    refine (hU x).2 ⟨i, hi, ?_⟩
    cases ha with
    | refl => exact ⟨x, by rw [hpar hn]; exact hxn, .refl x⟩
    | @step p y q h1 h2 h3 => exact ⟨p, by rw [hpar h1]; exact h2, (Anc.step hn hxn (.refl x)).trans h3⟩
  · rintro ⟨hx, hno⟩
    obtain ⟨i, hi, ha⟩ := (hM.2 x).1 hx
    have hxi : x ∈ ids := by
      by_cases he : x = i
      · rw [he]; exact hi
      · obtain ⟨z, n, hz, hxz, haz⟩ := ha.top he
        exact absurd hxz (hno z ((hM.2 z).2 ⟨i, hi, haz⟩) n hz)
    refine ⟨hxi, fun hu => ?_⟩
    obtain ⟨k, hk, p, hp, hxp⟩ := (hU x).1 hu
    obtain ⟨nk, hnk⟩ := hM.1 k hk
    rw [hpar hnk] at hp
    have hkM : k ∈ M := (hM.2 k).2 ⟨k, hk, .refl k⟩
    by_cases he : x = p
    · subst he
      exact hno k hkM nk hnk hp
    · obtain ⟨z, n, hz, hxz, haz⟩ := hxp.top he
      exact hno z ((hM.2 z).2 ⟨k, hk, .step hnk hp haz⟩) n hz hxz

/-- The order: by keys, and by names where keys are alike. -/
def OrdR (f : ByteArray → Int) (x y : ByteArray) : Prop := f x < f y ∨ (f x = f y ∧ lt x y = true)
theorem ord_ins {f : ByteArray → Int} {out : List ByteArray} {x : ByteArray} {k : Nat} (hk : k ≤ out.length) (ho : out.Pairwise (OrdR f)) (hlt : ∀ y ∈ out, lt y x = true) (h1 : ∀ y ∈ out.drop k, f x < f y) (h2 : k = 0 ∨ f (gv out (k - 1)) ≤ f x) : (out.take k ++ ([x] ++ out.drop k)).Pairwise (OrdR f) := by
  have hsp := List.take_append_drop k out
  have ho2 := ho
  rw [← hsp, List.pairwise_append] at ho2
  have hup : ∀ y ∈ out.take k, f y ≤ f x := by
    intro y hy
    rcases h2 with h2 | h2
    · subst h2; simp at hy
    · obtain ⟨i, hi, rfl⟩ := List.mem_take_iff_getElem.1 hy
      have hk1 : k - 1 < out.length := by omega
      rw [gv_eq hk1] at h2
      by_cases he : i = k - 1
      · subst he; exact h2
      · have := List.pairwise_iff_getElem.1 ho i (k - 1) (by omega) hk1 (by omega)
        unfold OrdR at this
        omega
  refine List.pairwise_append.2 ⟨ho2.1, List.pairwise_append.2 ⟨List.pairwise_singleton .., ho2.2.1, fun a ha b hb => ?_⟩, fun a ha b hb => ?_⟩
  · rw [List.mem_singleton.1 ha]
    exact .inl (h1 b hb)
  · rcases List.mem_append.1 hb with hb | hb
    · rw [List.mem_singleton.1 hb]
      have := hup a ha
      by_cases he : f a = f x
      · exact .inr ⟨he, hlt a (List.mem_of_mem_take ha)⟩
      · exact .inl (by omega)
    · exact ho2.2.2 a ha b hb
theorem ord_mov {f : ByteArray → Int} {M l : List ByteArray} (hs : Strict M) (hm : Mov f M l 0 M.length) (hr : Rise f l 0 M.length) : l.Pairwise (OrdR f) := by
  have he : EE f M := by
    intro i j hij hj _
    rw [gv_eq (by omega), gv_eq hj]
    exact List.pairwise_iff_getElem.1 hs i j (by omega) hj hij
  have he2 := hm.ee he
  refine List.pairwise_iff_getElem.2 fun i j hi hj hij => ?_
  have hl := hm.len
  have h1 := hr i j (Nat.zero_le _) hij (by omega)
  have h2 := he2 i j hij hj
  rw [gv_eq hi, gv_eq hj] at h1 h2
  by_cases h : f l[i] = f l[j]
  · exact .inr ⟨h, h2 h⟩
  · exact .inl (by omega)
theorem ord_eq {f : ByteArray → Int} {l m : List ByteArray} (hl : l.Pairwise (OrdR f)) (hm : m.Pairwise (OrdR f)) (hp : l.Perm m) : l = m := by
  refine hp.eq_of_pairwise (fun a b _ _ h1 h2 => ?_) hl hm
  rcases h1 with h1 | ⟨h1, h3⟩ <;> rcases h2 with h2 | ⟨h2, h4⟩
  · omega
  · omega
  · omega
  · have := lt_asymm h3
    rw [h4] at this
    cases this
end Go.Mx
