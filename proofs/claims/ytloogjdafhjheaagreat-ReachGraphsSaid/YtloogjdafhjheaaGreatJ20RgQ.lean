/- The document's picks of commits: the plain mathematics (no program in sight). Commits that came in: a slice of structs (name, parents, stamp); from the form's reading to the symbolic heap's. What a deletion leaves; clear, ranges over maps: laws of the walk. Walks of slices.IndexFunc, slices.DeleteFunc with dag's predicate, dag's nearest. Walk of dag's nearest. Walks of dag's Tops, Bases. marlaw11's helpers: Few, few, made. -/
import Derived.Test.YtloogjdafhjheaaGreatJ15DagA
import Derived.Test.YtloogjdafhjheaaGreatJ8ObjM
import Derived.Test.YtloogjdafhjheaaGreatJ14SrtB
import Derived.Deep.Fields
import Derived.Test.YtloogjdafhjheaaGreatMapM
import Derived.Test.YtloogjdafhjheaaGreatJ13Met
import Derived.Test.YtloogjdafhjheaaGreatJ16SrtG
import Derived.Lib.SliceRun
import Derived.Test.YtloogjdafhjheaaGreatJ17Sta
namespace Go.Mx
open Go Go.RowKit
/-- After i places of M: the place of the least stamp among the names that are not in L; -1: there is none. -/
def PickI (f : ByteArray → Option (List UInt8)) (M L : List ByteArray) (i : Nat) (k : Int) : Prop :=
  (k = -1 ∧ ∀ j (hj : j < M.length), j < i → M[j] ∈ L) ∨
  (∃ (c : Nat) (hc : c < M.length), k = (c : Int) ∧ c < i ∧ M[c] ∉ L ∧ ∀ j (hj : j < M.length), j < i → M[j] ∉ L → stp f M[c] ≤ stp f M[j])
section
variable {f : ByteArray → Option (List UInt8)} {M L : List ByteArray} {i : Nat} {k : Int}
theorem PickI.start (f : ByteArray → Option (List UInt8)) (M L : List ByteArray) : PickI f M L 0 (-1) := .inl ⟨rfl, fun j _ h => absurd h (by omega)⟩
theorem PickI.pass (h : PickI f M L i k) (hi : i < M.length) (hm : M[i] ∈ L) : PickI f M L (i + 1) k := by
  rcases h with ⟨rfl, h⟩ | ⟨c, hc, rfl, h1, h2, h3⟩
  · refine .inl ⟨rfl, fun j hj hji => ?_⟩
    by_cases he : j = i
    · subst he; exact hm
    · exact h j hj (by omega)
  · refine .inr ⟨c, hc, rfl, by omega, h2, fun j hj hji hn => ?_⟩
    by_cases he : j = i
    · subst he; exact absurd hm hn
    · exact h3 j hj (by omega) hn
theorem PickI.first (h : PickI f M L i (-1)) (hi : i < M.length) (hm : M[i] ∉ L) : PickI f M L (i + 1) (i : Int) := by
  rcases h with ⟨_, h⟩ | ⟨c, hc, h0, _⟩
  · refine .inr ⟨i, hi, rfl, by omega, hm, fun j hj hji hn => ?_⟩
    by_cases he : j = i
    · subst he; exact Int.le_refl _
    · exact absurd (h j hj (by omega)) hn
  · omega
theorem PickI.less {c : Nat} (h : PickI f M L i (c : Int)) (hi : i < M.length) (hc : c < M.length) (hm : M[i] ∉ L) (hl : stp f M[i] < stp f M[c]) : PickI f M L (i + 1) (i : Int) := by
  rcases h with ⟨h0, _⟩ | ⟨c', hc', h0, h1, h2, h3⟩
  · omega
  · obtain rfl : c = c' := by omega
    refine .inr ⟨i, hi, rfl, by omega, hm, fun j hj hji hn => ?_⟩
    by_cases he : j = i
    · subst he; exact Int.le_refl _
    · have := h3 j hj (by omega) hn
      omega
theorem PickI.more {c : Nat} (h : PickI f M L i (c : Int)) (hi : i < M.length) (hc : c < M.length) (hl : ¬ stp f M[i] < stp f M[c]) : PickI f M L (i + 1) (c : Int) := by
  rcases h with ⟨h0, _⟩ | ⟨c', hc', h0, h1, h2, h3⟩
  · omega
  · obtain rfl : c = c' := by omega
    refine .inr ⟨c, hc, rfl, by omega, h2, fun j hj hji hn => ?_⟩
    by_cases he : j = i
    · subst he; omega
    · exact h3 j hj (by omega) hn
theorem PickI.cases (h : PickI f M L i k) : k = -1 ∨ ∃ (c : Nat), k = (c : Int) ∧ c < M.length ∧ c < i := by
  rcases h with ⟨h0, _⟩ | ⟨c, hc, h0, h1, _⟩
  · exact .inl h0
  · exact .inr ⟨c, h0, hc, h1⟩
/-- Some are left: one is picked. -/
theorem PickI.done (h : PickI f M L M.length k) (hn : M.Nodup) (hl : L.length < M.length) : ∃ (c : Nat) (hc : c < M.length), k = (c : Int) ∧ M[c] ∉ L ∧ ∀ x ∈ M, x ∉ L → stp f M[c] ≤ stp f x := by
  rcases h with ⟨_, h⟩ | ⟨c, hc, rfl, _, h2, h3⟩
  · have := nodup_le hn (fun x hx => by
      obtain ⟨j, hj, rfl⟩ := List.mem_iff_getElem.1 hx
      exact h j hj hj)
    omega
  · refine ⟨c, hc, rfl, h2, fun x hx hxn => ?_⟩
    obtain ⟨j, hj, rfl⟩ := List.mem_iff_getElem.1 hx
    exact h3 j hj hj hxn
end
/-- What was picked so far. -/
structure Picked (f : ByteArray → Option (List UInt8)) (M L : List ByteArray) : Prop where
  nod : L.Nodup
  sub : ∀ x ∈ L, x ∈ M
  ups : ∀ m ∈ L, ∀ p ∈ nbP f m, stp f p < stp f m
theorem Picked.start (f : ByteArray → Option (List UInt8)) (M : List ByteArray) : Picked f M [] := ⟨List.nodup_nil, by simp, by simp⟩
theorem Picked.more {f : ByteArray → Option (List UInt8)} {M L : List ByteArray} {x : ByteArray} (h : Picked f M L) (hx : x ∈ M) (hn : x ∉ L) (ha : addE (L.map (ndOf f)) x (nbP f x) (stp f x) = 0) : Picked f M (L ++ [x]) where
  nod := by
    rw [List.nodup_append]
    exact ⟨h.nod, by simp, fun a ha b hb e => by rw [List.mem_singleton.1 hb] at e; exact hn (e ▸ ha)⟩
  sub y hy := by
    rcases List.mem_append.1 hy with hy | hy
    · exact h.sub y hy
    · rw [List.mem_singleton.1 hy]; exact hx
  ups m hm := by
    rcases List.mem_append.1 hm with hm | hm
    · exact h.ups m hm
    · rw [List.mem_singleton.1 hm]; exact add_ok ha
theorem Picked.all {f : ByteArray → Option (List UInt8)} {M L : List ByteArray} (h : Picked f M L) (hl : M.length ≤ L.length) : ∀ x ∈ M, x ∈ L := by
  intro x hx
  by_cases hn : x ∈ L
  · exact hn
  · have := nodup_le (M := x :: L) (M0 := M) (List.nodup_cons.2 ⟨hn, h.nod⟩) (fun y hy => by
      rcases List.mem_cons.1 hy with rfl | hy
      · exact hx
      · exact h.sub y hy)
    simp at this
    omega
theorem GoodM.perm {f : ByteArray → Option (List UInt8)} {ids M L : List ByteArray} {most : Nat} (h : GoodM f ids most M) (hn : L.Nodup) (hs : ∀ x, x ∈ L ↔ x ∈ M) : GoodM f ids most L :=
  ⟨fun x => (hs x).trans (h.clo x), hn, fun m hm => h.all m ((hs m).1 hm), Nat.le_trans (nodup_le hn fun x hx => (hs x).1 hx) h.len⟩
theorem Picked.good {f : ByteArray → Option (List UInt8)} {ids M L : List ByteArray} {most : Nat} (h : Picked f M L) (hl : M.length ≤ L.length) (g : GoodM f ids most M) : GoodM f ids most L ∧ Ups f L :=
  ⟨g.perm h.nod fun x => ⟨h.sub x, h.all hl x⟩, h.ups⟩
theorem GoodM.pars {f : ByteArray → Option (List UInt8)} {ids M : List ByteArray} {most : Nat} (g : GoodM f ids most M) : ∀ m ∈ M, ∀ p ∈ nbP f m, p ∈ M := fun m hm p hp => by
  obtain ⟨i, hi, ha⟩ := (g.clo m).1 hm
  exact (g.clo p).2 ⟨i, hi, Rea.trans (.step hp (.refl p)) ha⟩
theorem Ups.same {f : ByteArray → Option (List UInt8)} {M M' : List ByteArray} (h : Ups f M) (hs : ∀ x, x ∈ M' → x ∈ M) : Ups f M' := fun m hm => h m (hs m hm)
/-- There is a graph. -/
def HasG (f : ByteArray → Option (List UInt8)) (ids : List ByteArray) (most : Nat) : Prop := ∃ M0, GoodM f ids most M0 ∧ Ups f M0
theorem HasG.no {f : ByteArray → Option (List UInt8)} {ids : List ByteArray} {most : Nat} (h : ∀ M0, ¬ GoodM f ids most M0) : ¬ HasG f ids most := fun ⟨M0, g, _⟩ => h M0 g
/-- What a source's commits are. -/
structure SrcOK (f : ByteArray → Option (List UInt8)) : Prop where
  ne : ∀ m, cmt f m ≠ none → m ≠ ByteArray.empty
  st : ∀ m, 0 ≤ stp f m ∧ stp f m ≤ 9223372036854775807
  uni : ∃ U : List ByteArray, U.length ≤ 40 ∧ ∀ m, cmt f m ≠ none → m ∈ U
theorem SrcOK.len {f : ByteArray → Option (List UInt8)} (h : SrcOK f) {M : List ByteArray} (hn : M.Nodup) (ha : ∀ m ∈ M, cmt f m ≠ none) : M.length ≤ 40 := by
  obtain ⟨U, hU, hu⟩ := h.uni
  exact Nat.le_trans (nodup_le hn fun x hx => hu x (ha x hx)) hU
/-- The one that is picked may be added, where the stamps rise. -/
theorem pick_ok {f : ByteArray → Option (List UInt8)} {ids M L : List ByteArray} {most c : Nat} (hf : SrcOK f) (g : GoodM f ids most M) (hu : Ups f M) (h : Picked f M L) (hc : c < M.length) (hn : M[c] ∉ L) (hm : ∀ x ∈ M, x ∉ L → stp f M[c] ≤ stp f x) :
    addE (L.map (ndOf f)) M[c] (nbP f M[c]) (stp f M[c]) = 0 := by
  have hM : M[c] ∈ M := List.getElem_mem hc
  have hpar : ∀ p ∈ nbP f M[c], p ∈ L := by
    intro p hp
    by_cases hpl : p ∈ L
    · exact hpl
    · have h1 := hm p (g.pars _ hM p hp) hpl
      have h2 := hu _ hM p hp
      omega
  unfold addE
  rw [if_neg (hf.ne _ (g.all _ hM))]
  rw [if_neg (by rw [isIn_nd]; exact hn)]
  have hall : (nbP f M[c]).all (isIn (L.map (ndOf f))) = true := List.all_eq_true.2 fun p hp => isIn_nd.2 (hpar p hp)
  rw [if_neg (by rw [hall]; simp)]
  have hst : ((nbP f M[c]).all fun p => decide (stampL (L.map (ndOf f)) p < stp f M[c])) = true := List.all_eq_true.2 fun p hp => by
    unfold stampL
    rw [fnd_nd (hpar p hp)]
    exact decide_eq_true (hu _ hM p hp)
  have h0 := (hf.st M[c]).1
  have hl : L.length ≤ 40 := hf.len h.nod fun m hm => g.all m (h.sub m hm)
  rw [if_neg (by rw [hst]; simp; omega), if_neg (by rw [List.length_map]; omega)]
theorem pick_bad {f : ByteArray → Option (List UInt8)} {ids M L : List ByteArray} {most c : Nat} (hf : SrcOK f) (g : GoodM f ids most M) (h : Picked f M L) (hc : c < M.length) (hn : M[c] ∉ L) (hm : ∀ x ∈ M, x ∉ L → stp f M[c] ≤ stp f x)
    (ha : addE (L.map (ndOf f)) M[c] (nbP f M[c]) (stp f M[c]) ≠ 0) : ¬ HasG f ids most := by
  rintro ⟨M0, g0, h0⟩
  exact ha (pick_ok hf g (h0.same fun x hx => (g.same g0).1 x |>.1 hx) h hc hn hm)
/-- In rising order: one that may not be added, and there is no graph. -/
theorem rise_bad {f : ByteArray → Option (List UInt8)} {ids M L : List ByteArray} {most i : Nat} (hf : SrcOK f) (g : GoodM f ids most M) (hi : i < L.length) (hM : ∀ x, x ∈ L ↔ x ∈ M) (hn : L.Nodup) (hr : ∀ (a b : Nat) (ha : a < L.length) (hb : b < L.length), a ≤ b → stp f L[a] ≤ stp f L[b])
    (ha : addE ((L.take i).map (ndOf f)) L[i] (nbP f L[i]) (stp f L[i]) ≠ 0) : ¬ HasG f ids most := by
  rintro ⟨M0, g0, h0⟩
  have hu : Ups f M := h0.same fun x hx => (g.same g0).1 x |>.1 hx
  have hl : L.length ≤ 40 := hf.len hn fun m hm => g.all m ((hM m).1 hm)
  exact ha (add_all hi hM hn g.pars hu hr (fun m hm => hf.ne m (g.all m hm)) (fun m _ => (hf.st m).1) (by omega))
theorem take_ups {f : ByteArray → Option (List UInt8)} {L : List ByteArray} {i : Nat} (hi : i < L.length) (h : ∀ m ∈ L.take i, ∀ p ∈ nbP f m, stp f p < stp f m) (ha : addE ((L.take i).map (ndOf f)) L[i] (nbP f L[i]) (stp f L[i]) = 0) : ∀ m ∈ L.take (i + 1), ∀ p ∈ nbP f m, stp f p < stp f m := by
  intro m hm
  rw [List.take_succ_eq_append_getElem hi] at hm
  rcases List.mem_append.1 hm with hm | hm
  · exact h m hm
  · rw [List.mem_singleton.1 hm]; exact add_ok ha
end Go.Mx

namespace Go.Mx
open Go Go.RowKit Go.ChangeShapes Go.WideShapes Go.ChangeAt Go.Deep
variable {H : Type} {enc : TypeId × Value → H} {P : Program} {w : World}

theorem texts_of {t e : TypeId} {fuel : Nat} {u : Value} {x : DataW H × List MemPlace} {held : Bool} (ht : P.underlying t = some (.slice e)) (he : P.underlying e = some .string) (hc : P.cellsOf e = 1)
    (hf : DataW.trod enc P w 0 (fun _ => true) held fuel t [u] = some x) : ∃ l : List ByteArray, Sl w 1 u l.length (ss l) ∧ ∀ s ∈ l, s.size ≤ maxLen := by
  rcases open_strings ht he hc hf with ⟨hcs, _⟩ | ⟨x, len, c, zs, hcs, _, hl, hm, hz, _, hcell, hwz⟩
  · simp at hcs
    subst hcs
    exact ⟨[], Sl.nil w 1, by simp⟩
  · simp at hcs
    subst hcs
    simp only [if_true] at hz
    refine ⟨zs.take len, ⟨some x, c, ?_, ?_, hm, ?_, by simp, fun j u hu => ⟨x, rfl, ?_⟩⟩, fun s hs => hwz s (List.mem_of_mem_take hs)⟩
    · rw [List.length_take, hz, Nat.min_eq_left hl]
    · rw [List.length_take, hz, Nat.min_eq_left hl]; exact hl
    · rw [ss, List.length_map, Nat.mul_one]
    · have hj : j < len := by
        have := (List.getElem?_eq_some_iff.1 hu).1
        rw [ss, List.length_map, List.length_take] at this
        omega
      rw [hcell j (by omega), ← hu]
      have hzj : j < zs.length := by omega
      simp [ss, hj, hzj]


def ndRow (q : Gd) : List Value := [.string q.2.1, q.1, .int .i64 q.2.2.2]
/-- A slice of commits. -/
def ND (w : World) (v : Value) (l : List Gd) : Prop := Sl w 3 v l.length (l.flatMap ndRow) ∧ ∀ q ∈ l, Sl w 1 q.1 q.2.2.1.length (ss q.2.2.1)
theorem ND.old {w0 w : World} {R : List Row} {Q : List Rd} {v : Value} {l : List Gd} (h : St w0 w R Q) (hl : ND w0 v l) : ND w v l := ⟨h.old hl.1, fun q hq => h.old (hl.2 q hq)⟩
theorem ND.at {w : World} {v : Value} {l : List Gd} (h : ND w v l) : ∃ ao cap blk off, v = .slice ao l.length cap ∧ l.length ≤ cap ∧ cap ≤ 9223372036854775807 ∧
    ∀ k (hk : k < l.length), ao = some ⟨blk, off, none⟩ ∧ w.cell? ⟨blk, off + k * 3, none⟩ = some (.string l[k].2.1) ∧ w.cell? ⟨blk, off + k * 3 + 1, none⟩ = some l[k].1 ∧ w.cell? ⟨blk, off + k * 3 + 2, none⟩ = some (.int .i64 l[k].2.2.2) := by
  obtain ⟨ao, cap, rfl, h1, h2, h3, _, hc⟩ := h.1.form
  unfold maxLen at h2
  by_cases hnil : l = []
  · subst hnil; exact ⟨ao, cap, 0, 0, rfl, h1, by omega, fun k hk => by simp at hk⟩
  · have hne : l.flatMap ndRow ≠ [] := by intro he; rw [he] at h3; simp at h3; exact hnil (List.eq_nil_of_length_eq_zero (by omega))
    obtain ⟨blk, off, rfl, hh⟩ := hc hne
    refine ⟨_, cap, blk, off, rfl, h1, by omega, fun k hk => ⟨rfl, ?_, ?_, ?_⟩⟩
    · have := hh (k * 3 + 0) _ ((flat_get (k := 3) (fun _ => rfl) l (by omega) hk).trans (show (ndRow l[k])[0]? = some (.string l[k].2.1) from rfl))
      simpa using this
    · have := hh (k * 3 + 1) _ ((flat_get (k := 3) (fun _ => rfl) l (by omega) hk).trans (show (ndRow l[k])[1]? = some l[k].1 from rfl))
      simpa [Nat.add_assoc] using this
    · have := hh (k * 3 + 2) _ ((flat_get (k := 3) (fun _ => rfl) l (by omega) hk).trans (show (ndRow l[k])[2]? = some (.int .i64 l[k].2.2.2) from rfl))
      simpa [Nat.add_assoc] using this
def NdOk (q : Gd) : Prop := q.2.1.size ≤ maxLen ∧ (Lit.int .i64 q.2.2.2).wf = true ∧ ∀ s ∈ q.2.2.1, s.size ≤ maxLen

theorem open_nodes {r : Reach} {b0 : Nat} {t e tN tI tS : TypeId} {f0 f1 f2 : Field} {v : Value} {d : DataW H} {ps : List MemPlace} {held : Bool} (ht : P.underlying t = some (.slice e)) (he : P.underlying e = some (.struct #[f0, f1, f2]))
    (hone : oneCellFields P #[f0, f1, f2] = true) (hC : P.cellsOf e = 3) (h0 : f0.type = tN) (h1 : f1.type = tS) (h2 : f2.type = tI) (hI : P.underlying tI = some (.int .i64)) (hS : P.underlying tS = some (.slice tN)) (hN : P.underlying tN = some .string) (hcN : P.cellsOf tN = 1)
    (hval : Value.okWide P w r b0 t v) (hd : DataW.Trod enc P w 0 (fun _ => true) held t v d ps) : ∃ l : List Gd, ND w v l ∧ ∀ q ∈ l, NdOk q := by
  obtain ⟨a, len, cap, rfl⟩ := okWide_slice ht hval
  obtain ⟨fuel, hf⟩ := hd
  rcases DataW.trod_slice ht hf with ⟨hcs, _⟩ | ⟨a', len', cap', elems, rest, n, _, hcs, _, _, hl, hm, hel, hsp, _⟩
  · simp [Value.cells] at hcs
    obtain ⟨rfl, rfl, rfl⟩ := hcs
    exact ⟨[], ⟨Sl.nil w 3, by simp⟩, by simp⟩
  · simp [Value.cells] at hcs
    obtain ⟨rfl, rfl, rfl⟩ := hcs
    have key : ∀ i : Nat, ∃ q : Gd, i < len → w.cell? (a'.add (i * 3)) = some (.string q.2.1) ∧ w.cell? (a'.add (i * 3 + 1)) = some q.1 ∧ w.cell? (a'.add (i * 3 + 2)) = some (.int .i64 q.2.2.2) ∧ Sl w 1 q.1 q.2.2.1.length (ss q.2.2.1) ∧ NdOk q := by
      intro i
      by_cases hi : i < len
      · have h3 := hsp i hi
        rw [hC, List.getElem?_eq_getElem (by omega)] at h3
        obtain ⟨cs, hcs, htr⟩ := Option.bind_eq_some_iff.1 h3
        obtain ⟨_, hcl, hat⟩ := World.cells?_some hcs
        match cs, hcl with
        | [c0, c1, c2], _ =>
          obtain ⟨xs, m, _, _, _, hlen, hg⟩ := DataW.trod_struct he htr
          obtain ⟨o0, k0⟩ := hone_of hone 0 f0 rfl
          obtain ⟨o1, k1⟩ := hone_of hone 1 f1 rfl
          obtain ⟨o2, k2⟩ := hone_of hone 2 f2 rfl
          match xs, hlen with
          | [y0, y1, y2], _ =>
            have g0 : DataW.trod enc P w 0 (fun _ => true) held m f0.type [c0] = some y0 := by simpa [o0, k0] using hg 0 f0 rfl
            have g1 : DataW.trod enc P w 0 (fun _ => true) held m f1.type [c1] = some y1 := by simpa [o1, k1] using hg 1 f1 rfl
            have g2 : DataW.trod enc P w 0 (fun _ => true) held m f2.type [c2] = some y2 := by simpa [o2, k2] using hg 2 f2 rfl
            rw [h0] at g0
            rw [h1] at g1
            rw [h2] at g2
            obtain ⟨n0, e0, _, w0⟩ := DataW.trod_string hN g0
            obtain ⟨L, sl, hz⟩ := texts_of hS hN hcN g1
            obtain ⟨n2, e2, _, w2⟩ := DataW.trod_int hI g2
            simp at e0 e2
            subst e0; subst e2
            refine ⟨(c1, n0, L, n2), fun _ => ⟨?_, ?_, ?_, sl, w0, w2, hz⟩⟩
            · have := hat 0 (by omega); rw [Addr.add_add] at this; simpa using this
            · have := hat 1 (by omega); rw [Addr.add_add] at this; simpa using this
            · have := hat 2 (by omega); rw [Addr.add_add] at this; simpa using this
      · exact ⟨(.bool false, ByteArray.empty, [], 0), fun h => absurd h hi⟩
    obtain ⟨f, hfk⟩ := Classical.skolem.1 key
    have hel1 : ((List.range len).map f).length = len := by simp
    refine ⟨(List.range len).map f, ⟨?_, ?_⟩, ?_⟩
    · refine ⟨some a', cap, by rw [hel1], by rw [hel1]; exact hl, hm, by rw [flat_len (k := 3) (fun _ => rfl)], by simp, fun j u hu => ⟨a', rfl, ?_⟩⟩
      have hj : j < len * 3 := by have := (List.getElem?_eq_some_iff.1 hu).1; rw [flat_len (k := 3) (fun _ => rfl), hel1] at this; exact this
      have hk : j / 3 < ((List.range len).map f).length := by rw [hel1]; omega
      have hfg := flat_get (k := 3) (f := ndRow) (fun _ => rfl) ((List.range len).map f) (j := j / 3) (i := j % 3) (by omega) hk
      rw [show j / 3 * 3 + j % 3 = j by omega, hu] at hfg
      obtain ⟨r1, r2, r3, _⟩ := hfk (j / 3) (by omega)
      have hfe : ((List.range len).map f)[j / 3] = f (j / 3) := by simp
      rw [hfe] at hfg
      have hm3 : j % 3 = 0 ∨ j % 3 = 1 ∨ j % 3 = 2 := by omega
      rcases hm3 with h | h | h
      · rw [h] at hfg
        rw [show j / 3 * 3 = j by omega] at r1
        rw [Option.some.inj hfg]
        exact r1
      · rw [h] at hfg
        rw [show j / 3 * 3 + 1 = j by omega] at r2
        rw [Option.some.inj hfg]
        exact r2
      · rw [h] at hfg
        rw [show j / 3 * 3 + 2 = j by omega] at r3
        rw [Option.some.inj hfg]
        exact r3
    · intro q hq
      obtain ⟨i, hi, rfl⟩ := List.mem_map.1 hq
      exact (hfk i (List.mem_range.1 hi)).2.2.2.1
    · intro e he
      obtain ⟨i, hi, rfl⟩ := List.mem_map.1 he
      exact (hfk i (List.mem_range.1 hi)).2.2.2.2
end Go.Mx

namespace Go.Mx
open Go Go.RowKit
/-- clear(s[i:]), s the head row. -/
theorem wpl_clear {P : Program} {w0 w : World} {R : List Row} {Qs : List Rd} {ops : Array Oper} {rest : List Oper} {o : Oper} {a : Act} {Q : Exit → Act → World → Prop} (hgd : o.guard = none) (t : TypeId) (x : Operand)
    (ho : o.op = .call { callee := .builtin .clear, args := #[x], argTypes := #[t] }) {e : TypeId} {z : Value} (ht : P.underlying t = some (.slice e)) (hz : ∀ w, (zeroValue e).run P w = .ok z w) (hzc : z.cells = #[z]) (h1 : z.oneCell' = true)
    {g n cap : Nat} {xs : List Value} (hst : St w0 w (⟨.slice (some ⟨g, 0, none⟩) n cap, e, 1, n, xs⟩ :: R) Qs) (i c : Nat) (hi : i < n) (hx : a.eval x = .slice (some ⟨g, i, none⟩) (n - i) c)
    (h : ∀ w', St w0 w' (⟨.slice (some ⟨g, 0, none⟩) n cap, e, 1, n, xs.take i ++ List.replicate (n - i) z⟩ :: R) Qs → wpList P ops Q rest (a.put o.dst (.tuple #[])) w') : wpList P ops Q (o :: rest) a w := by
  refine wpList_plain hgd fun K hK => ?_
  have hxl : xs.length = n := by have := (hst.own _ (List.mem_cons_self ..)).1; simpa using this
  obtain ⟨w', hr, h2⟩ := hst.store (P := P) i (List.replicate (n - i) z) (by simp; omega) (by intro u hu; rw [List.eq_of_mem_replicate hu]; exact h1)
  have hzc2 : (Builtin.zeroCells z.cells (n - i)).toList = List.replicate (n - i) z := by
    rw [hzc]
    simp [Builtin.zeroCells]
    apply List.ext_getElem
    · simp
    · intro j h1 h2
      simp [Nat.mod_one]
  obtain ⟨m, hm⟩ : ∃ m, n - i = m + 1 := ⟨n - i - 1, by omega⟩
  unfold Oper.wp execOp
  simp only [ho, resolve, invoke, builtin, Sem.run_bind, Sem.run_pure, Result.andThen_ok, List.map_toArray, List.map_cons, List.map_nil, hx]
  rw [hm] at hzc2 hr ⊢
  simp [Builtin.clear_, run_underlying ht, hz, hzc2, hr]
  refine hK _ _ (h w' ?_)
  rw [hm]
  rw [show xs.drop (i + (List.replicate (n - i) z).length) = [] from List.drop_eq_nil_of_le (by simp; omega), List.append_nil, hm] at h2
  exact h2
theorem wpl_mrange {P : Program} {w : World} {ops : Array Oper} {rest : List Oper} {o : Oper} {a : Act} {Q : Exit → Act → World → Prop} (hgd : o.guard = none) (t : TypeId) (m : Operand) (ho : o.op = .range t m)
    {kt et : TypeId} (ht : P.underlying t = some (.map kt et)) {b : Nat} {l : List Ent} (hm : Mp w b l) (hme : a.eval m = .map (some b))
    (h : ∀ w', Rg w' w.heap.size b l l → Below w.heap.size w w' → w'.heap.size = w.heap.size + 1 → wpList P ops Q rest (a.put o.dst (.pointer (some ⟨w.heap.size, 0, none⟩))) w') : wpList P ops Q (o :: rest) a w := by
  refine wpList_plain hgd fun K hK => ?_
  obtain ⟨w', hr, h1, h2, h3⟩ := run_mrange (P := P) ht hm
  unfold Oper.wp execOp
  simp only [ho, hme, Sem.run_bind, hr, Result.andThen_ok, Sem.run_pure]
  exact hK _ _ (h w' h1 h2 h3)
theorem cell_grown {w w' : World} {b g j : Nat} {v : Value} (h : w.cell? ⟨g, j, none⟩ = some v) (hg : w.grownBy w' (some b)) (hne : g ≠ b) : w'.cell? ⟨g, j, none⟩ = some v := by
  rw [← h]
  have hlt : g < w.heap.size := World.block_lt_of_cell? w _ h
  exact World.cell?_of_block (hg.block g hlt (fun e => hne (Option.some.inj e)))
/-- What is left of a list without those. -/
def outL (K l : List ByteArray) : List ByteArray := l.filter fun x => !memB K x
def IdxPost (K l : List ByteArray) (w : World) (e : Ending) (w' : World) : Prop :=
  ((∃ i : Nat, e = .returned (.int .i64 (i : Int)) ∧ i < l.length ∧ outL K (l.take (i + 1)) = l.take i) ∨ (e = .returned (.int .i64 (-1)) ∧ outL K l = l)) ∧ w = w'
theorem outL_snoc (K : List ByteArray) {l : List ByteArray} {i : Nat} (h : i < l.length) : outL K (l.take (i + 1)) = outL K (l.take i) ++ if memB K l[i] = true then [] else [l[i]] := by
  unfold outL
  rw [List.take_succ_eq_append_getElem h, List.filter_append]
  congr 1
  cases hm : memB K l[i] <;> simp [hm]
theorem outL_len (K l : List ByteArray) : (outL K l).length ≤ l.length := List.length_filter_le _ _
theorem mem_outL {K l : List ByteArray} {x : ByteArray} : x ∈ outL K l ↔ x ∈ l ∧ x ∉ K := by
  unfold outL
  rw [List.mem_filter]
  refine and_congr_right fun _ => ?_
  rw [← memB_iff]
  simp
theorem drop_get {c l : List ByteArray} {j : Nat} (h : c.drop j = l.drop j) (hj : j < l.length) (hc : j < c.length) : c[j] = l[j] ∧ c.drop (j + 1) = l.drop (j + 1) := by
  rw [List.drop_eq_getElem_cons hj, List.drop_eq_getElem_cons hc] at h
  exact List.cons.inj h
theorem set_mid {c : List ByteArray} {i j : Nat} (x : ByteArray) (hi : i < c.length) (hij : i < j) : (c.take i ++ [x] ++ c.drop (i + 1)).length = c.length ∧ (c.take i ++ [x] ++ c.drop (i + 1)).take (i + 1) = c.take i ++ [x] ∧ (c.take i ++ [x] ++ c.drop (i + 1)).drop (j + 1) = c.drop (j + 1) := by
  have h1 : (c.take i ++ [x]).length = i + 1 := by simp; omega
  refine ⟨by simp; omega, ?_, ?_⟩
  · rw [← h1, List.take_left]
  · obtain ⟨m, hm⟩ : ∃ m, j + 1 = (c.take i ++ [x]).length + m := ⟨j - i, by omega⟩
    rw [hm, List.drop_length_add_append, List.drop_drop]
    congr 1
    omega
end Go.Mx

namespace Go.Proofs.YtloogjdafhjheaaGreat
open Go.RowKit Go.Mx

end Go.Proofs.YtloogjdafhjheaaGreat

namespace Go.Proofs.YtloogjdafhjheaaGreat
open Go.RowKit Go.Mx
/-- What nearest hands back: those of a set that are no other one's parents. -/
def NearPost (L : List Nd) (M : List ByteArray) (w : World) (e : Ending) (w' : World) : Prop :=
  ∃ v N, e = .returned v ∧ St w w' [⟨v, 9, 1, N.length, ss N⟩] [] ∧ Strict N ∧ N.length ≤ 2000 ∧ ∀ x, x ∈ N ↔ x ∈ M ∧ ∀ m ∈ M, ∀ n, fnd L m = some n → x ∉ n.1
def addAll (K ps : List ByteArray) : List ByteArray := ps.foldl (fun K p => if memB K p = true then K else K ++ [p]) K
theorem mset_any (K : List ByteArray) (p : ByteArray) : mset (met K) p (.int .i64 1) = met (if memB K p = true then K else K ++ [p]) := by
  by_cases h : memB K p = true
  · rw [if_pos h]
    have h2 := memB_iff.1 h
    clear h
    induction K with
    | nil => cases h2
    | cons x K ih =>
      show mset ((x, Value.int .i64 1) :: met K) p _ = _
      rw [mset]
      by_cases hx : x = p
      · rw [if_pos hx, ← hx]; rfl
      · rw [if_neg hx]
        rcases List.mem_cons.1 h2 with h3 | h3
        · exact absurd h3.symm hx
        · rw [ih h3]; rfl
  · rw [if_neg h]
    exact mset_met (by rwa [memB_iff] at h)
theorem mem_add1 {K : List ByteArray} {p x : ByteArray} : x ∈ (if memB K p = true then K else K ++ [p]) ↔ x ∈ K ∨ x = p := by
  by_cases h : memB K p = true
  · rw [if_pos h]
    exact ⟨.inl, fun h1 => by rcases h1 with h1 | rfl; exact h1; exact memB_iff.1 h⟩
  · rw [if_neg h]
    simp

end Go.Proofs.YtloogjdafhjheaaGreat

namespace Go.Mx
open Go Go.RowKit
/-- Those of a set that are no other one's parents. -/
def Near (L : List Nd) (S N : List ByteArray) : Prop := ∀ x, x ∈ N ↔ x ∈ S ∧ ∀ m ∈ S, ∀ n, fnd L m = some n → x ∉ n.1
def TopsPost (L : List Nd) (ids : List ByteArray) (w : World) (e : Ending) (w' : World) : Prop :=
  (∃ v N M, e = .returned (.tuple #[v, .int .i64 0]) ∧ St w w' [⟨v, 9, 1, N.length, ss N⟩] [] ∧ Strict N ∧ N.length ≤ 2000 ∧ Clo L ids M ∧ Near L M N) ∨
  (e = .returned (.tuple #[.slice none 0 0, .int .i64 7]) ∧ St w w' [] [] ∧ ∃ i ∈ ids, fnd L i = none)
def BasesPost (L : List Nd) (ids : List ByteArray) (b : ByteArray) (w : World) (e : Ending) (w' : World) : Prop :=
  (∃ v N S Ma Mb, e = .returned (.tuple #[v, .int .i64 0]) ∧ St w w' [⟨v, 9, 1, N.length, ss N⟩] [] ∧ Strict N ∧ N.length ≤ 2000 ∧ Clo L ids Ma ∧ Clo L [b] Mb ∧ (∀ x, x ∈ S ↔ x ∈ Ma ∧ x ∈ Mb) ∧ Near L S N) ∨
  (e = .returned (.tuple #[.slice none 0 0, .int .i64 7]) ∧ St w w' [] [] ∧ ((∃ i ∈ ids, fnd L i = none) ∨ fnd L b = none))
theorem Clo.isin {L : List Nd} (hw : WF L) {ids M : List ByteArray} (h : Clo L ids M) : ∀ m ∈ M, ∃ n, fnd L m = some n := by
  intro m hm
  obtain ⟨i, hi, ha⟩ := (h.2 m).1 hm
  obtain ⟨n, hn⟩ := h.1 i hi
  obtain ⟨q, hq, _⟩ := ha.mem hw hn
  exact ⟨q, hq⟩
end Go.Mx
namespace Go.Proofs.YtloogjdafhjheaaGreat
open Go.RowKit Go.Mx

end Go.Proofs.YtloogjdafhjheaaGreat

namespace Go.Mx
open Go Go.RowKit
theorem addE_ok {L : List Nd} {id : ByteArray} {ps : List ByteArray} {s : Int} (h : addE L id ps s = 0) : id ≠ ByteArray.empty ∧ fnd L id = none ∧ (∀ p ∈ ps, ∃ m, fnd L p = some m ∧ m.2 < s) ∧ 0 ≤ s := by
  unfold addE at h
  split at h
  · cases h
  rename_i h1
  split at h
  · cases h
  rename_i h2
  split at h
  · cases h
  rename_i h3
  split at h
  · cases h
  rename_i h4
  have h2' : fnd L id = none := by
    unfold isIn at h2
    cases hf : fnd L id with
    | none => rfl
    | some n => rw [hf] at h2; exact absurd rfl h2
  refine ⟨h1, h2', fun p hp => ?_, by omega⟩
  have h3' : ps.all (isIn L) = true := by cases hq : ps.all (isIn L) with | true => rfl | false => exact absurd hq h3
  have h5 := List.all_eq_true.1 h3' p hp
  have h4' : (ps.all fun p => decide (stampL L p < s)) = true := by
    cases hq : (ps.all fun p => decide (stampL L p < s)) with
    | true => rfl
    | false => exact absurd (Or.inl hq) h4
  have h6 := of_decide_eq_true (List.all_eq_true.1 h4' p hp)
  unfold isIn at h5
  cases hf : fnd L p with
  | none => rw [hf] at h5; cases h5
  | some m =>
    refine ⟨m, rfl, ?_⟩
    unfold stampL at h6
    rw [hf] at h6
    exact h6
theorem WF.add {L : List Nd} {id : ByteArray} {ps : List ByteArray} {s : Int} (hw : WF L) (h : addE L id ps s = 0) : WF (L ++ [(id, uniqL ps, s)]) := by
  obtain ⟨h1, h2, h3, h4⟩ := addE_ok h
  exact .snoc hw h2 h1 (uniqL_strict ps) (fun p hp => h3 p ((mem_uniqL ps p).1 hp)) h4
/-- Stamps are numbers of the machine. -/
def StB (L : List Nd) : Prop := ∀ k, -1 ≤ stampL L k ∧ stampL L k ≤ 9223372036854775807
theorem StB.nil : StB [] := fun _ => by unfold stampL fnd; decide
theorem StB.add {L : List Nd} {n : Nd} (h : StB L) (h0 : -1 ≤ n.2.2) (h1 : n.2.2 ≤ 9223372036854775807) : StB (L ++ [n]) := by
  intro k
  have := h k
  unfold stampL at this ⊢
  rw [fnd_app]
  cases hf : fnd L k with
  | some m => rw [hf] at this; exact this
  | none =>
    rw [Option.none_or, fnd]
    split
    · rename_i q hq
      split at hq
      · cases hq; exact ⟨h0, h1⟩
      · cases hq
    · decide
theorem GR.apart {w : World} {g B : Nat} {G : List Gd} (h : GR w g B G) : g ≠ B := by
  rintro rfl
  obtain ⟨o, ho, hn⟩ := h.mp.noRow
  have hc := h.cell
  unfold World.cell? at hc
  rw [ho] at hc
  cases o with
  | cells c e f => exact hn _ _ _ rfl
  | _ => simp_all
/-- A graph that a law's body may hold. -/
structure GG (w : World) (g B : Nat) (G : List Gd) : Prop where
  r : GR w g B G
  wf : WF (G.map (·.2))
  st : StB (G.map (·.2))
theorem GG.keep {w0 w : World} {R : List Row} {Q : List Rd} {g B : Nat} {G : List Gd} (h : GG w0 g B G) (hs : St w0 w R Q) : GG w g B G := ⟨h.r.st hs, h.wf, h.st⟩
def MadePost (w : World) (e : Ending) (w' : World) : Prop :=
  (e = .returned (.pointer none) ∧ St w w' [] []) ∨
  ∃ g B G, e = .returned (.pointer (some ⟨g, 0, none⟩)) ∧ GG w' g B G ∧ G.length ≤ 40 ∧ w.heap.size ≤ g ∧ w.heap.size ≤ B ∧ St w w' [] []
def NFewPost (l : List Gd) (w : World) (e : Ending) (w' : World) : Prop := (∃ b : Bool, e = .returned (.bool b) ∧ (b = true → l.length ≤ 40 ∧ ∀ q ∈ l, q.2.2.1.length ≤ 8)) ∧ w = w'
def FewPost (l : List ByteArray) (w : World) (e : Ending) (w' : World) : Prop := (∃ b : Bool, e = .returned (.bool b) ∧ (b = true → l.length ≤ 20)) ∧ w = w'
end Go.Mx
namespace Go.Proofs.YtloogjdafhjheaaGreat
open Go.RowKit Go.Mx

end Go.Proofs.YtloogjdafhjheaaGreat
