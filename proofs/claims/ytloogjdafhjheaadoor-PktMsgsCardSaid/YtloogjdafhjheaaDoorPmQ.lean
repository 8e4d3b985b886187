/- Messages turned and cut: the plain mathematics. -/
import Derived.Test.YtloogjdafhjheaaDoorPmP
namespace Go.Mx
open Go Go.RowKit
theorem fourL_inj {s t : W32} (h : fourL s = fourL t) : s = t := by
  unfold fourL at h
  simp only [List.cons.injEq, and_true] at h
  obtain ⟨h1, h2, h3, h4⟩ := h
  have a1 := congrArg UInt8.toNat h1
  have a2 := congrArg UInt8.toNat h2
  have a3 := congrArg UInt8.toNat h3
  have a4 := congrArg UInt8.toNat h4
  simp only [UInt8.toNat_ofNat'] at a1 a2 a3 a4
  have b1 := s.isLt
  have b2 := t.isLt
  apply BitVec.eq_of_toNat_eq
  omega
theorem dec_whole {m : Ms} (h : mayM m = true) {M : Ms} {er : Int} (hd : DecM (encM m) M er) : M = m ∧ er = 0 :=
  DecM.uniq hd (.inl ⟨rfl, h, rfl⟩)
theorem dec_cut {m : Ms} (h : mayM m = true) {k : Nat} (hk : k < (encM m).length) {M : Ms} {er : Int} (hd : DecM ((encM m).take k) M er) : er ≠ 0 := by
  rcases hd with ⟨_, h1, h2⟩ | ⟨rfl, _, _⟩
  · have := (enc_pre h h1 (rest := (encM m).drop k) (by rw [h2, List.take_append_drop])).2
    have := congrArg List.length this
    rw [List.length_drop] at this
    simp at this
    omega
  · exact errM_ne _
theorem dec_turned {m : Ms} {k : Nat} (hk : k < (encM m).length) {y : UInt8} (hy : y ≠ (encM m)[k]) {M : Ms} {er : Int} (hd : DecM ((encM m).set k y) M er) : er = 5 := by
  obtain ⟨p1, p2⟩ := enc_parts m
  obtain ⟨l1, l2⟩ := enc_len8 m
  refine (DecM.uniq hd (dec_sum (by rw [List.length_set]; omega) ?_)).2
  rw [List.length_set]
  by_cases hb : k < (bodyM m).length
  · rw [List.take_set, List.drop_set, if_pos (by omega), p1, p2]
    intro hc
    have e := fourL_inj hc
    have hkk : (bodyM m)[k] = (encM m)[k] := by simp only [encM]; rw [List.getElem_append_left hb]
    have e1 : bodyM m = (bodyM m).take k ++ [(bodyM m)[k]] ++ (bodyM m).drop (k + 1) := by
      rw [List.append_assoc, List.singleton_append, ← List.drop_eq_getElem_cons hb, List.take_append_drop]
    have e2 : (bodyM m).set k y = (bodyM m).take k ++ [y] ++ (bodyM m).drop (k + 1) := by
      rw [List.set_eq_take_append_cons_drop, if_pos hb, List.append_assoc, List.singleton_append]
    rw [e2] at e
    have e3 := congrArg crcS e1
    rw [← e] at e3
    exact crcS_turn (show (bodyM m)[k] ≠ y by rw [hkk]; exact fun h => hy h.symm) e3.symm
  · rw [List.take_set_of_le (by omega), p1]
    intro hc
    rw [← p2] at hc
    have := congrArg (fun l => l[k - ((encM m).length - 4)]?) hc
    simp only [List.getElem?_drop] at this
    rw [show (encM m).length - 4 + (k - ((encM m).length - 4)) = k by omega, List.getElem?_set_self (by omega), List.getElem?_eq_getElem (by omega)] at this
    exact hy (Option.some.inj this).symm
theorem xorP_u8 (p q : UInt8) : bits BinOp.xor IntKind.u8 (p.toNat : Int) (q.toNat : Int) = ((p ^^^ q).toNat : Int) := by
  have hp := p.toNat_lt
  have hq := q.toNat_lt
  have hpq := (p ^^^ q).toNat_lt
  show IntKind.u8.wrap ((BitVec.ofInt 8 (p.toNat : Int) ^^^ BitVec.ofInt 8 (q.toNat : Int)).toNat : Int) = _
  rw [BitVec.toNat_xor, BitVec.ofInt_natCast, BitVec.ofInt_natCast, BitVec.toNat_ofNat, BitVec.toNat_ofNat, Nat.mod_eq_of_lt (by omega), Nat.mod_eq_of_lt (by omega), ← UInt8.toNat_xor]
  rw [IntKind.wrap_u8]
  omega
theorem xor_ne {x y : UInt8} (h : x ≠ 0) : y ^^^ x ≠ y := by
  intro hc
  apply h
  have : y ^^^ (y ^^^ x) = y ^^^ y := by rw [hc]
  rw [← UInt8.xor_assoc, UInt8.xor_self, UInt8.zero_xor] at this
  exact this
theorem linesL_leK (K : Nat) : ∀ {l : List (List UInt8)}, (∀ p ∈ l, p.length ≤ K) → (linesL l).length ≤ (K + 4) * l.length
  | [], _ => by simp [linesL]
  | p :: l, h => by
    have ih := linesL_leK K (l := l) fun q hq => h q (List.mem_cons_of_mem _ hq)
    have h1 := h p (List.mem_cons_self ..)
    have h2 := lineL_len p
    have : linesL (p :: l) = lineL p ++ linesL l := by simp [linesL]
    rw [this, List.length_append, h2, List.length_cons, Nat.mul_succ]
    omega
theorem linesL_snoc {l : List (List UInt8)} {i : Nat} (h : i < l.length) : linesL (l.take (i + 1)) = linesL (l.take i) ++ lineL l[i] := by
  rw [List.take_succ_eq_append_getElem h]
  simp only [linesL, List.flatMap_append, List.flatMap_cons, List.flatMap_nil, List.append_nil]
theorem bs_setU {l : List UInt8} {k : Nat} {y : UInt8} : (bs l).set k (.int .u8 (y.toNat : Int)) = bs (l.set k y) := by
  unfold bs
  rw [List.map_set]
theorem bs_setT {l : List UInt8} {k : Nat} (hk : k < l.length) {y : UInt8} : (bs l).take k ++ [.int .u8 (y.toNat : Int)] ++ (bs l).drop (k + 1) = bs (l.set k y) := by
  rw [← bs_setU, List.set_eq_take_append_cons_drop, if_pos (by rw [bs_len]; exact hk), List.append_assoc, List.singleton_append]
theorem told_all (l : List (List UInt8)) (h : ∀ p ∈ l, p.length ≤ 60000) : linesS (linesL l ++ [48, 48, 48, 48, 122, 122]) 0 [] = (l, (linesL l).length + 4, 0) := by
  have := lines_told l [] [122, 122] [] h
  simpa using this
end Go.Mx
