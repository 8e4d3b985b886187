/- Closures: the plain laws of reach. What marlaw12.first asks: the plain mathematics. The walk of marlaw12.first. From the form's reading of a slice of slices of bytes to the symbolic heap's. -/
import Derived.Test.YtloogjdafhjheaaGreatRcC
import Derived.Test.YtloogjdafhjheaaGreatJ8ObjM
import Derived.Test.YtloogjdafhjheaaGreatJ2ShaW
import Derived.SizedLaws
namespace Go.Mx
open Go Go.RowKit
theorem flat_ge {α : Type} (f : α → List UInt8) (l : List α) (h : ∀ x ∈ l, 32 ≤ (f x).length) : 32 * l.length ≤ (l.flatMap f).length := by
  induction l with
  | nil => simp
  | cons x l ih =>
    have h1 := h x (List.mem_cons_self ..)
    have h2 := ih fun y hy => h y (List.mem_cons_of_mem _ hy)
    simp only [List.flatMap_cons, List.length_append, List.length_cons]
    omega
theorem refs_enc {o : Ob} (h : mayB o = true) : 32 * (refsL o).length ≤ (encL o).length := by
  unfold mayB at h
  unfold refsL encL
  by_cases h1 : o.kind = 1
  · rw [if_neg (by omega), if_neg (by omega)]; simp
  · rw [if_neg h1] at h
    rw [if_neg h1]
    by_cases h2 : o.kind = 2
    · rw [if_pos h2] at h
      rw [if_pos h2, if_pos h2]
      simp only [Bool.and_eq_true, decide_eq_true_eq, itemsB] at h
      have h3 := flat_ge itemL o.items (fun x hx => by
        have h4 := List.all_eq_true.1 h.1.2.1.1 x hx
        simp only [itemB, Bool.and_eq_true] at h4
        have := raw_len h4.2
        simp only [itemL, List.length_cons, List.length_append]
        omega)
      simp only [List.length_map, List.length_cons, List.length_append]
      omega
    · rw [if_neg h2] at h
      rw [if_neg h2, if_neg h2]
      by_cases h3 : o.kind = 3
      · rw [if_pos h3] at h
        rw [if_pos h3]
        simp only [Bool.and_eq_true, decide_eq_true_eq, parentsB] at h
        have h5 := raw_len h.1.1.1.1.2
        have h6 := flat_ge rawL o.parents (fun x hx => by have := raw_len (List.all_eq_true.1 h.1.1.1.2.1.1 x hx); omega)
        simp only [List.length_cons, List.length_append]
        omega
      · rw [if_neg h3] at h; cases h
/-- What a text names. -/
def obRefs (b : List UInt8) : List ByteArray := if (obO (some b)).2 = true then refsL (obO (some b)).1 else []
theorem obRefs_len (b : List UInt8) : 32 * (obRefs b).length ≤ b.length := by
  unfold obRefs
  split
  · rename_i h
    have h2 : (decO b).2 = 0 := of_decide_eq_true h
    have h3 := dec_ok (b := b) (o := (decO b).1) (Prod.ext rfl h2)
    have h4 := refs_enc h3.1
    rw [h3.2] at h4
    exact h4
  · simp
theorem flatRefs_len (l : List (List UInt8)) : 32 * (l.flatMap obRefs).length ≤ (l.map List.length).sum := by
  induction l with
  | nil => simp
  | cons x l ih =>
    have := obRefs_len x
    simp only [List.flatMap_cons, List.length_append, List.map_cons, List.sum_cons]
    omega
theorem nbF_src (l : List (List UInt8)) (lie : Bool) (x : ByteArray) : ∀ p ∈ nbF (srcF l lie) x, p ∈ l.flatMap obRefs := by
  intro p hp
  unfold nbF tellB at hp
  cases hs : srcF l lie x with
  | none => rw [hs] at hp; simp [obO] at hp
  | some b =>
    rw [hs] at hp
    exact List.mem_flatMap.2 ⟨b, srcI_mem hs, hp⟩
theorem reach_len {l : List (List UInt8)} {lie : Bool} {ids M : List ByteArray} (hn : M.Nodup) (h : ∀ m ∈ M, ∃ i ∈ ids, Rea (nbF (srcF l lie)) m i) : 32 * M.length ≤ 32 * ids.length + (l.map List.length).sum := by
  have h1 := nodup_sub hn (K := ids ++ l.flatMap obRefs) (fun m hm => by
    obtain ⟨i, hi, hr⟩ := h m hm
    exact rt_in (ids := ids) (fun i hi => List.mem_append_left _ hi) (fun y p hp => List.mem_append_right _ (nbF_src l lie y p hp)) hi hr)
  have h2 := flatRefs_len l
  simp only [List.length_append] at h1
  omega
theorem strict_sort {S : List ByteArray} (h : S.Nodup) : Strict (sortL S) := by
  have h1 := sortL_sorted S
  have h2 : (sortL S).Nodup := (sortL_perm S).nodup_iff.2 h
  unfold Strict
  refine List.Pairwise.imp (fun {a b} (hab : lt b a = false ∧ a ≠ b) => ?_) (List.pairwise_and_iff.2 ⟨h1, h2⟩)
  cases hl : lt a b with
  | true => rfl
  | false => exact absurd (lt_total hl hab.1) hab.2
theorem sort_uniq {S T : List ByteArray} (hS : S.Nodup) (h : ∀ x, x ∈ S ↔ x ∈ T) : sortL S = uniqL T := eq_uniqL (strict_sort hS) fun x => (sortL_perm S).mem_iff.trans (h x)
theorem mem_told {f : ByteArray → Option (List UInt8)} {M : List ByteArray} {x : ByteArray} : x ∈ toldL f M ↔ x ∈ M ∧ tellB f x = true := List.mem_filter
theorem mem_lack {f : ByteArray → Option (List UInt8)} {M : List ByteArray} {x : ByteArray} : x ∈ lackL f M ↔ x ∈ M ∧ tellB f x = false := by
  unfold lackL
  rw [List.mem_filter]
  simp
theorem told_nodup {f : ByteArray → Option (List UInt8)} {M : List ByteArray} (h : M.Nodup) : (toldL f M).Nodup := h.sublist (List.filter_sublist ..)
theorem lack_nodup {f : ByteArray → Option (List UInt8)} {M : List ByteArray} (h : M.Nodup) : (lackL f M).Nodup := h.sublist (List.filter_sublist ..)
theorem CloN.app {nb : ByteArray → List ByteArray} {a b M N K : List ByteArray} (h1 : CloN nb a M) (h2 : CloN nb b N) (h3 : CloN nb (b ++ a) K) (x : ByteArray) : x ∈ K ↔ x ∈ M ∨ x ∈ N := by
  rw [h3 x, h1 x, h2 x]
  constructor
  · rintro ⟨i, hi, hr⟩
    rcases List.mem_append.1 hi with hi | hi
    · exact .inr ⟨i, hi, hr⟩
    · exact .inl ⟨i, hi, hr⟩
  · rintro (⟨i, hi, hr⟩ | ⟨i, hi, hr⟩)
    · exact ⟨i, List.mem_append_right _ hi, hr⟩
    · exact ⟨i, List.mem_append_left _ hi, hr⟩
theorem told_join {f : ByteArray → Option (List UInt8)} {a b M N K : List ByteArray} (h1 : CloN (nbF f) a M) (h2 : CloN (nbF f) b N) (h3 : CloN (nbF f) (b ++ a) K) (hn : K.Nodup) : sortL (toldL f K) = uniqL (sortL (toldL f M) ++ sortL (toldL f N)) := by
  refine sort_uniq (told_nodup hn) fun x => ?_
  rw [List.mem_append, (sortL_perm _).mem_iff, (sortL_perm _).mem_iff, mem_told, mem_told, mem_told, CloN.app h1 h2 h3 x]
  constructor
  · rintro ⟨h | h, h'⟩
    · exact .inl ⟨h, h'⟩
    · exact .inr ⟨h, h'⟩
  · rintro (⟨h, h'⟩ | ⟨h, h'⟩)
    · exact ⟨.inl h, h'⟩
    · exact ⟨.inr h, h'⟩
theorem lack_join {f : ByteArray → Option (List UInt8)} {a b M N K : List ByteArray} (h1 : CloN (nbF f) a M) (h2 : CloN (nbF f) b N) (h3 : CloN (nbF f) (b ++ a) K) (hn : K.Nodup) : sortL (lackL f K) = uniqL (sortL (lackL f M) ++ sortL (lackL f N)) := by
  refine sort_uniq (lack_nodup hn) fun x => ?_
  rw [List.mem_append, (sortL_perm _).mem_iff, (sortL_perm _).mem_iff, mem_lack, mem_lack, mem_lack, CloN.app h1 h2 h3 x]
  constructor
  · rintro ⟨h | h, h'⟩
    · exact .inl ⟨h, h'⟩
    · exact .inr ⟨h, h'⟩
  · rintro (⟨h, h'⟩ | ⟨h, h'⟩)
    · exact ⟨.inl h, h'⟩
    · exact ⟨.inr h, h'⟩
theorem again_sub {f : ByteArray → Option (List UInt8)} {a M K : List ByteArray} (h1 : CloN (nbF f) a M) (h2 : CloN (nbF f) (sortL (toldL f M)) K) : ∀ x ∈ K, x ∈ M := by
  intro x hx
  obtain ⟨i, hi, hr⟩ := (h2 x).1 hx
  obtain ⟨j, hj, hr2⟩ := (h1 i).1 (mem_told.1 ((sortL_perm _).mem_iff.1 hi)).1
  exact (h1 x).2 ⟨j, hj, hr.trans hr2⟩
theorem again_told {f : ByteArray → Option (List UInt8)} {a M K : List ByteArray} (h1 : CloN (nbF f) a M) (hM : M.Nodup) (h2 : CloN (nbF f) (sortL (toldL f M)) K) (hK : K.Nodup) : sortL (toldL f K) = sortL (toldL f M) := by
  refine strict_eq (strict_sort (told_nodup hK)) (strict_sort (told_nodup hM)) fun x => ?_
  rw [(sortL_perm _).mem_iff, (sortL_perm _).mem_iff, mem_told, mem_told]
  constructor
  · rintro ⟨h, h'⟩
    exact ⟨again_sub h1 h2 x h, h'⟩
  · rintro ⟨h, h'⟩
    exact ⟨(h2 x).2 ⟨x, (sortL_perm _).mem_iff.2 (mem_told.2 ⟨h, h'⟩), .refl x⟩, h'⟩
theorem again_lack {f : ByteArray → Option (List UInt8)} {a M K : List ByteArray} (h1 : CloN (nbF f) a M) (h2 : CloN (nbF f) (sortL (toldL f M)) K) (hK : K.Nodup) : (lackL f K).length ≤ (lackL f M).length :=
  nodup_sub (lack_nodup hK) fun x hx => mem_lack.2 ⟨again_sub h1 h2 x (mem_lack.1 hx).1, (mem_lack.1 hx).2⟩
end Go.Mx

namespace Go.Mx
open Go Go.RowKit
def obC : Ob := ⟨3, [], [], idB [2, 0], [], 0, 0, str []⟩
def obT : Ob := ⟨2, [], [], str [], [], 0, 0, str []⟩
def btC : List UInt8 := [3, 153, 190, 94, 251, 136, 202, 32, 19, 189, 142, 78, 176, 53, 253, 66, 213, 36, 84, 104, 254, 154, 250, 112, 216, 186, 156, 28, 65, 154, 72, 196, 232, 0, 0, 0, 0]
set_option maxRecDepth 100000 in
theorem may_c : mayB obC = true := by decide +kernel
theorem may_t : mayB obT = true := by decide +kernel
set_option maxRecDepth 100000 in
theorem raw_c : rawL (idB [2, 0]) = [153, 190, 94, 251, 136, 202, 32, 19, 189, 142, 78, 176, 53, 253, 66, 213, 36, 84, 104, 254, 154, 250, 112, 216, 186, 156, 28, 65, 154, 72, 196, 232] := by decide +kernel
theorem enc_t : encL obT = [2, 0] := by
  unfold encL
  rw [if_neg (by decide), if_pos (show obT.kind = 2 from rfl)]
  show 2 :: (putL 0 ++ []) = _
  rw [putL]
  rfl
theorem enc_c : encL obC = btC := by
  unfold encL
  rw [if_neg (by decide), if_neg (by decide)]
  show 3 :: (rawL (idB [2, 0]) ++ (UInt8.ofNat 0 :: []) ++ putL 0 ++ putL 0 ++ putL (str []).size ++ bL (str [])) = btC
  rw [str_size, raw_c, show ([] : List UInt8).length = 0 from rfl, putL]
  kernel_rfl
set_option maxRecDepth 100000 in
theorem id_ne : idB btC ≠ idB [2, 0] := by decide +kernel
theorem ob_c : obO (some btC) = (obC, true) := by
  have h := dec_enc may_c
  rw [enc_c] at h
  show ((decO btC).1, decide ((decO btC).2 = 0)) = _
  rw [h]
  rfl
theorem ob_t : obO (some [2, 0]) = (obT, true) := by
  have h := dec_enc may_t
  rw [enc_t] at h
  show ((decO [2, 0]).1, decide ((decO [2, 0]).2 = 0)) = _
  rw [h]
  rfl
theorem src_t : srcF [[2, 0], btC] false (idB [2, 0]) = some [2, 0] := by
  unfold srcF
  rw [srcI, if_pos (by simp), if_pos (by rfl)]
  rfl
theorem src_c : srcF [[2, 0], btC] false (idB btC) = some btC := by
  unfold srcF
  rw [srcI, if_pos (by simp), if_neg (fun h => id_ne (show idB btC = idB [2, 0] from h.symm)), srcI, if_pos (by simp), if_pos (by rfl)]
  rfl
theorem refs_c : obRefs btC = [idB [2, 0]] := by unfold obRefs; rw [ob_c]; rfl
theorem refs_t : obRefs [2, 0] = [] := by unfold obRefs; rw [ob_t]; rfl
theorem first_clo {M : List ByteArray} (h : CloN (nbF (srcF [[2, 0], btC] false)) [idB btC] M) (hn : M.Nodup) : (toldL (srcF [[2, 0], btC] false) M).length = 2 ∧ lackL (srcF [[2, 0], btC] false) M = [] := by
  have hc : idB btC ∈ M := (h _).2 ⟨_, List.mem_singleton.2 rfl, .refl _⟩
  have ht : idB [2, 0] ∈ M := (h _).2 ⟨_, List.mem_singleton.2 rfl, .step (p := idB [2, 0]) (by unfold nbF tellB; rw [src_c, ob_c]; exact List.mem_singleton.2 rfl) (.refl _)⟩
  have hin : ∀ m ∈ M, m = idB btC ∨ m = idB [2, 0] := by
    intro m hm
    obtain ⟨i, hi, hr⟩ := (h m).1 hm
    have h1 := rt_in (U := [idB btC, idB [2, 0]]) (ids := [idB btC]) (fun i hi => by rw [List.mem_singleton.1 hi]; exact List.mem_cons_self ..) (fun y p hp => by
      have h2 := nbF_src _ false y p hp
      rw [List.flatMap_cons, List.flatMap_cons, refs_t, refs_c] at h2
      rw [List.mem_singleton.1 h2]
      exact List.mem_cons_of_mem _ (List.mem_singleton.2 rfl)) hi hr
    rcases List.mem_cons.1 h1 with h1 | h1
    · exact .inl h1
    · exact .inr (List.mem_singleton.1 h1)
  have htl : ∀ m ∈ M, tellB (srcF [[2, 0], btC] false) m = true := by
    intro m hm
    unfold tellB
    rcases hin m hm with rfl | rfl
    · rw [src_c, ob_c]
    · rw [src_t, ob_t]
  have h1 : toldL (srcF [[2, 0], btC] false) M = M := List.filter_eq_self.2 htl
  have h2 : lackL (srcF [[2, 0], btC] false) M = [] := List.filter_eq_nil_iff.2 fun m hm => by rw [htl m hm]; simp
  have h3 := nodup_sub hn (K := [idB btC, idB [2, 0]]) fun m hm => by
    rcases hin m hm with rfl | rfl
    · exact List.mem_cons_self ..
    · exact List.mem_cons_of_mem _ (List.mem_singleton.2 rfl)
  have h4 := nodup_sub (M := [idB btC, idB [2, 0]]) (K := M) (List.nodup_cons.2 ⟨fun h => id_ne (List.mem_singleton.1 h), List.nodup_cons.2 ⟨(fun h => by cases h), List.nodup_nil⟩⟩) fun m hm => by
    rcases List.mem_cons.1 hm with rfl | hm
    · exact hc
    · rw [List.mem_singleton.1 hm]; exact ht
  simp only [List.length_cons, List.length_nil] at h3 h4
  exact ⟨by rw [h1]; omega, h2⟩
theorem first_lim {M : List ByteArray} (hn : M.Nodup) (h : ∀ m ∈ M, ∃ i ∈ [idB btC], Rea (nbF (srcF [[2, 0], btC] false)) m i) : ¬ 10 < M.length := by
  have h1 := reach_len hn h
  simp only [List.length_cons, List.length_nil, List.map_cons, List.map_nil, List.sum_cons, List.sum_nil, btC] at h1
  omega
end Go.Mx

namespace Go.Proofs.YtloogjdafhjheaaGreat
open Go.RowKit Go.Mx
theorem clo_first {w : World} {e : Ending} {w' : World} (h : CloPost (srcF [[2, 0], btC] false) [idB btC] 10 w e w') : ∃ v1 v2 M N, e = .returned (.tuple #[v1, v2, .int .i64 0]) ∧ St w w' [⟨v1, 9, 1, 2, ss M⟩, ⟨v2, 9, 1, 0, ss N⟩] [] := by
  rcases h with ⟨v1, v2, M, he, hs, hc, hn, _⟩ | ⟨_, _, M, hn, hr, hl⟩
  · obtain ⟨h1, h2⟩ := first_clo hc hn
    rw [h1, h2] at hs
    exact ⟨v1, v2, _, _, he, hs⟩
  · exact absurd hl (first_lim hn hr)
theorem oz_tc (k : Int) (t : ByteArray) (ht : t.size ≤ 1000) : OZ ⟨k, [], [], t, [], 0, 0, str []⟩ := ⟨by simp only []; omega, by rw [str_size]; simp, by simp, by simp⟩
theorem idB_size (b : List UInt8) : (idB b).size ≤ 1000 := by unfold idB; rw [str_size, hexL_len, sha_len]; simp
theorem ll_two {w0 w : World} {e : TypeId} {va vb v3 : Value} {a b : List UInt8} {R : List Row} {ea eb : TypeId} (h : St w0 w (⟨v3, e, 1, 2, [va, vb]⟩ :: ⟨vb, eb, 1, b.length, bs b⟩ :: ⟨va, ea, 1, a.length, bs a⟩ :: R) []) : LL w v3 [a, b] :=
  ⟨[va, vb], rfl, h.sl0, fun q hq => by
    have hq' : q = ⟨va, 1, a.length, bs a⟩ ∨ q = ⟨vb, 1, b.length, bs b⟩ := by simpa [rds] using hq
    rcases hq' with rfl | rfl
    · exact h.sl2
    · exact h.sl1⟩
set_option maxRecDepth 100000 in
set_option maxHeartbeats 1000000 in
theorem first12_any (w : World) : Calls Tryz.prog 4 #[] w fun e w' => e = .returned (.bool true) ∧ St w w' [] [] := by
  have HH2 := Mx.hid (fun (wx : World) => encode_any (.slice none 0 0) (.slice none 0 0) (.slice none 0 0) obT wx ⟨Sl.nil _ 1, Sl.nil _ 3, Sl.nil _ 1⟩ (oz_tc _ _ (by rw [str_size]; simp)) |>.mono fun e w' h => (show ∃ v, e = .returned (.tuple #[v, .int .i64 0]) ∧ St wx w' [(⟨v, 5, 1, ([2, 0]).length, bs ([2, 0])⟩ : Row)] [] by unfold EncPost at h; rw [if_pos may_t, enc_t] at h; exact h))
  have HH3 := Mx.hid (fun (wx : World) => encode_any (.slice none 0 0) (.slice none 0 0) (.slice none 0 0) obC wx ⟨Sl.nil _ 1, Sl.nil _ 3, Sl.nil _ 1⟩ (oz_tc _ _ (idB_size _)) |>.mono fun e w' h => (show ∃ v, e = .returned (.tuple #[v, .int .i64 0]) ∧ St wx w' [(⟨v, 5, 1, (btC).length, bs (btC)⟩ : Row)] [] by unfold EncPost at h; rw [if_pos may_c, enc_c] at h; exact h))
  have HI2 := Mx.hid (fun (wx : World) (v : Value) (R : List Row) (h : St w wx ((⟨v, 5, 1, ([2, 0]).length, bs ([2, 0])⟩ : Row) :: R) []) => (rid_any v [2, 0] wx h.sl0 (by simp)))
  have HI3 := Mx.hid (fun (wx : World) (v : Value) (R : List Row) (h : St w wx ((⟨v, 5, 1, (btC).length, bs (btC)⟩ : Row) :: R) []) => (rid_any v btC wx h.sl0 (by simp [btC])))
  have HS := Mx.hid (fun (wx : World) lv (h : LL wx lv [[2, 0], btC]) => source_any lv [[2, 0], btC] false wx h (by simp [btC]) (by simp))
  have HC := Mx.hid (fun (wx : World) g2 g3 g5 v (h : SM wx g2 g3 g5 [[2, 0], btC] false) (hv : Sl wx 1 v 1 (ss [idB btC])) => (closure_any g2 g3 g5 [[2, 0], btC] false v [idB btC] 10 wx h (by simp [btC]) (by simp) hv (by simp) (by omega) (by omega)).mono fun e w' h => clo_first h)
  simp only [show str (hexL (sha [2, 0])) = idB [2, 0] from rfl, show str (hexL (sha btC)) = idB btC from rfl] at HI2 HI3
  simp only [show ((10 : Nat) : Int) = 10 from rfl] at HC
  unfold OV obT at HH2
  unfold OV obC at HH3
  unfold SourcePost at HS
  generalize idB [2, 0] = idt at *
  generalize idB btC = idc at *
  go_enter Tryz.func4, Tryz.ntmps4
  go_wp2_with (first | (go_at_call 18; (with_reducible show Calls _ _ #[Value.agg #[Value.int _ 2, _, _, _, _, _, _, _]] _ _); refine (HH2.out _).mono ?_; rintro e w1 ⟨v1, rfl, hs1⟩; obtain ⟨xo, xc, rfl, _⟩ := id hs1.sl0) | (go_at_call 19; refine (HI2.out _ _ _ hs1).mono ?_; rintro e w2 ⟨rfl, hk2⟩; have hs2 := hs1.call0 hk2) | (go_at_call 18; refine (HH3.out _).mono ?_; rintro e w3 ⟨v3, rfl, hk3⟩; obtain ⟨yo, yc, rfl, _⟩ := id hk3.sl0; have hs3 := hs2.call1 hk3) | (go_at_call 7; go_loud (refine (HS.out _ _ (ll_two (hs3.madeAt #[.slice xo 2 xc, .slice yo btC.length yc] 51 1 2 w3.heap.size rfl (by simp [maxLen]) rfl))).mono ?_; rintro e w4 ⟨g2, g3, g5, rfl, hk4, hm4⟩; have hs4 := (hs3.madeAt #[.slice xo 2 xc, .slice yo btC.length yc] 51 1 2 w3.heap.size rfl (by simp [maxLen]) rfl).call0 hk4)) | (go_at_call 19; go_loud (refine (HI3.out _ _ _ (hs4.sub (List.sublist_cons_self ..) (by simp))).mono ?_; rintro e w5 ⟨rfl, hk5⟩; have hs5 := hs4.call0 hk5; have hm5 := hm4.keep hk5)) | (go_at_call 20; go_loud (refine (HC.out _ _ _ _ _ (hm5.keep ((St.refl _).alloc _)) (by exact Sl.one _ _ _)).mono ?_; rintro e w6 ⟨va, vb, M, N, rfl, hk6⟩; obtain ⟨ao, ac, rfl, _⟩ := id hk6.sl0; obtain ⟨bo, bc, rfl, _⟩ := id hk6.sl1; have hs6 := ((hs5.alloc _).call hk6).bare)))
  go_ret
  exact ⟨rfl, hs6⟩


end Go.Proofs.YtloogjdafhjheaaGreat

namespace Go.Mx
open Go Go.RowKit Go.ChangeShapes Go.WideShapes Go.ChangeAt
variable {H : Type} {enc : TypeId × Value → H} {P : Program} {w : World}

theorem weights_all {e : TypeId} {elems : List (DataW H)} {x : DataW H} (hx : x ∈ elems) : ∀ n ∈ x.weights P e, n ∈ DataW.weightsAll P e elems := by
  induction elems with
  | nil => cases hx
  | cons d r ih =>
    intro n hn
    simp only [DataW.weightsAll, List.mem_append]
    rcases List.mem_cons.1 hx with rfl | hx
    · exact Or.inl hn
    · exact Or.inr (ih hx n hn)

theorem bytes_of {t e : TypeId} {fuel : Nat} {u : Value} {x : DataW H × List MemPlace} {held : Bool} (ht : P.underlying t = some (.slice e)) (he : P.underlying e = some (.int .u8)) (hc : P.cellsOf e = 1) (hby : P.bytesOf e = 1)
    (hf : DataW.trod enc P w 0 (fun _ => true) held fuel t [u] = some x) : ∃ l : List UInt8, Sl w 1 u l.length (bs l) ∧ ((∀ n ∈ x.1.weights P t, n ≤ reachBytes) → l.length ≤ reachBytes) := by
  rcases open_ints ht he hc hf with ⟨hcs, _⟩ | ⟨x, len, cap, zs, hcs, _, hl, hm, hz, hx, hcell, hwz⟩
  · simp at hcs
    subst hcs
    exact ⟨[], Sl.nil w 1, fun _ => by simp⟩
  · simp at hcs
    subst hcs
    simp only [if_true] at hz
    refine ⟨(zs.take len).map fun n => UInt8.ofNat n.toNat, ⟨some x, cap, ?_, ?_, hm, ?_, by simp, fun j u hu => ⟨x, rfl, ?_⟩⟩, fun hw => ?_⟩
    · rw [List.length_map, List.length_take, hz, Nat.min_eq_left hl]
    · rw [List.length_map, List.length_take, hz, Nat.min_eq_left hl]; exact hl
    · rw [bs_len, Nat.mul_one]
    · have hj : j < len := by
        have := (List.getElem?_eq_some_iff.1 hu).1
        rw [bs_len, List.length_map, List.length_take] at this
        omega
      rw [hcell j (by omega), ← hu]
      have hzj : j < zs.length := by omega
      have hw := hwz zs[j] (List.getElem_mem _)
      have hx : 0 ≤ zs[j] ∧ zs[j] ≤ 255 := by simpa [Lit.wf, IntKind.min, IntKind.max, IntKind.signed, IntKind.bits] using hw
      rw [bs_get (by rw [List.length_map, List.length_take]; omega)]
      simp only [List.getElem_map, List.getElem_take, UInt8.toNat_ofNat']
      congr 2
      rw [List.getD_eq_getElem?_getD, List.getElem?_eq_getElem hzj, Option.getD_some]
      omega
    · subst hx
      have := hw (((lits .u8 (zs.take len)).length + (lits .u8 (zs.drop len)).length) * P.bytesOf e) (by simp only [DataW.weights, ht]; exact List.mem_cons_self ..)
      rw [hby] at this
      simp only [lits, List.length_map, List.length_take, List.length_drop] at this ⊢
      omega

theorem open_lists_sz {r : Reach} {b0 : Nat} {t e b : TypeId} {v : Value} {d : DataW H} {ps : List MemPlace} {held : Bool} (ht : P.underlying t = some (.slice e)) (he : P.underlying e = some (.slice b)) (hb : P.underlying b = some (.int .u8))
    (hce : P.cellsOf e = 1) (hcb : P.cellsOf b = 1) (hby : P.bytesOf b = 1)
    (hval : Value.okWide P w r b0 t v) (hd : DataW.Trod enc P w 0 (fun _ => true) held t v d ps) : ∃ ls : List (List UInt8), LL w v ls ∧ ((∀ n ∈ d.weights P t, n ≤ reachBytes) → ∀ l ∈ ls, l.length ≤ reachBytes) := by
  obtain ⟨a, len, cap, rfl⟩ := okWide_slice ht hval
  obtain ⟨fuel, hf⟩ := hd
  rcases DataW.trod_slice ht hf with ⟨hcs, _⟩ | ⟨a', len', cap', elems, rest, n, _, hcs, hx, _, hl, hm, hel, hsp, _⟩
  · simp [Value.cells] at hcs
    obtain ⟨rfl, rfl, rfl⟩ := hcs
    exact ⟨[], LL.nil w, fun _ => by simp⟩
  · simp [Value.cells] at hcs
    obtain ⟨rfl, rfl, rfl⟩ := hcs
    simp only [Prod.mk.injEq] at hx
    obtain ⟨rfl, _⟩ := hx
    have key : ∀ i : Nat, ∃ q : Value × List UInt8, i < len → w.cell? (a'.add i) = some q.1 ∧ Sl w 1 q.1 q.2.length (bs q.2) ∧ ((∀ n ∈ (DataW.slice (elems.map (·.1)) (rest.map (·.1)) : DataW H).weights P t, n ≤ reachBytes) → q.2.length ≤ reachBytes) := by
      intro i
      by_cases hi : i < len
      · have h3 := hsp i hi
        rw [hce, Nat.mul_one, List.getElem?_eq_getElem (by omega)] at h3
        obtain ⟨cs, hcs, htr⟩ := Option.bind_eq_some_iff.1 h3
        obtain ⟨_, hcl, hat⟩ := World.cells?_some hcs
        match cs, hcl with
        | [c0], _ =>
          obtain ⟨l, h1, h2⟩ := bytes_of he hb hcb hby htr
          refine ⟨(c0, l), fun _ => ⟨by have := hat 0 (by omega); rw [Addr.add_zero'] at this; simpa using this, h1, fun hw => h2 fun n hn => hw n ?_⟩⟩
          simp only [DataW.weights, ht, List.mem_cons, List.mem_append]
          exact Or.inr (Or.inl (weights_all (List.mem_map.2 ⟨elems[i], List.getElem_mem _, rfl⟩) n hn))
      · exact ⟨(.bool false, []), fun h => absurd h hi⟩
    obtain ⟨f, hfk⟩ := Classical.skolem.1 key
    refine ⟨(List.range len).map fun i => (f i).2, ⟨(List.range len).map fun i => (f i).1, by simp, ?_, ?_⟩, fun hw l hl => ?_⟩
    · refine ⟨some a', cap, by simp, by simpa using hl, hm, by simp, by simp, fun j u hu => ⟨a', rfl, ?_⟩⟩
      have hj : j < len := by have := (List.getElem?_eq_some_iff.1 hu).1; simpa using this
      rw [(hfk j hj).1]
      simpa [hj] using hu
    · intro q hq
      unfold rds at hq
      rw [List.mem_iff_getElem] at hq
      obtain ⟨i, hi, rfl⟩ := hq
      simp at hi
      simpa using (hfk i hi).2.1
    · obtain ⟨i, hi, rfl⟩ := List.mem_map.1 hl
      exact (hfk i (List.mem_range.1 hi)).2.2 hw
theorem open_lists {r : Reach} {b0 : Nat} {t e b : TypeId} {v : Value} {d : DataW H} {ps : List MemPlace} {held : Bool} (ht : P.underlying t = some (.slice e)) (he : P.underlying e = some (.slice b)) (hb : P.underlying b = some (.int .u8))
    (hce : P.cellsOf e = 1) (hcb : P.cellsOf b = 1) (hby : P.bytesOf b = 1)
    (hval : Value.okWide P w r b0 t v) (hd : DataW.Trod enc P w 0 (fun _ => true) held t v d ps) : ∃ ls : List (List UInt8), LL w v ls :=
  (open_lists_sz ht he hb hce hcb hby hval hd).imp fun _ h => h.1
end Go.Mx
