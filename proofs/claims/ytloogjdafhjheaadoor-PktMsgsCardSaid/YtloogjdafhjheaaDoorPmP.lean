/- Messages: the plain mathematics (no program in sight). -/
import Derived.Test.YtloogjdafhjheaaDoorPktP
import Derived.Test.YtloogjdafhjheaaDoorCrcQ
import Derived.Test.YtloogjdafhjheaaDoorObjP
import Derived.Test.YtloogjdafhjheaaDoorSplitP
import Derived.Lib.AtoiAll
import Derived.Lib.ItoaMem
namespace Go.Mx
open Go Go.RowKit
/-- A message. -/
structure Ms where
  kind : Int
  seq : Int
  n : Int
  m : Int
  ids : List ByteArray
  data : List UInt8
def noMs : Ms := ⟨0, 0, 0, 0, [], []⟩
def okN (x : Int) : Bool := decide (0 ≤ x ∧ x ≤ 1073741824)
def mayM (m : Ms) : Bool := decide (1 ≤ m.kind ∧ m.kind ≤ 7) && okN m.seq && okN m.n && okN m.m && m.ids.all validB && decide (m.ids.length ≤ 64) && decide (m.data.length ≤ 1000)
def headL (m : Ms) : List UInt8 := Lib.itoa m.kind ++ 32 :: (Lib.itoa m.seq ++ 32 :: (Lib.itoa m.n ++ 32 :: Lib.itoa m.m))
def piecesM (m : Ms) : List (List UInt8) := headL m :: (m.ids.map bL ++ [[], m.data])
def linesL (l : List (List UInt8)) : List UInt8 := l.flatMap lineL
def bodyM (m : Ms) : List UInt8 := linesL (piecesM m) ++ [48, 48, 48, 48]
/-- Four bytes of a sum, the highest first. -/
def fourL (s : W32) : List UInt8 := [UInt8.ofNat (s.toNat / 16777216), UInt8.ofNat (s.toNat / 65536), UInt8.ofNat (s.toNat / 256), UInt8.ofNat s.toNat]
def encM (m : Ms) : List UInt8 := bodyM m ++ fourL (crcS (bodyM m))
/-- The error, where bytes are no message. -/
def errM (b : List UInt8) : Int := if b.length < 8 then 2 else if fourL (crcS (b.take (b.length - 4))) = b.drop (b.length - 4) then 4 else 5
/-- What reading tells. -/
def DecM (b : List UInt8) (M : Ms) (e : Int) : Prop :=
  (e = 0 ∧ mayM M = true ∧ encM M = b) ∨ (e = errM b ∧ M = noMs ∧ ∀ m, mayM m = true → encM m ≠ b)
theorem errM_ne (b : List UInt8) : errM b ≠ 0 := by
  unfold errM
  split
  · decide
  · split <;> decide
-- decimals
theorem dec_dig : ∀ (u : Nat), ∀ c ∈ Lib.decDigits u, 48 ≤ c.toNat ∧ c.toNat ≤ 57 := by
  intro u
  induction u using Nat.strongRecOn with
  | ind u ih =>
    intro c hc
    rw [Lib.decDigits] at hc
    by_cases h : u < 10
    · rw [dif_pos h] at hc
      rw [List.mem_singleton.1 hc, UInt8.toNat_ofNat']
      omega
    · rw [dif_neg h] at hc
      rcases List.mem_append.1 hc with hc | hc
      · exact ih _ (by omega) c hc
      · rw [List.mem_singleton.1 hc, UInt8.toNat_ofNat']
        omega
theorem dec_ne (u : Nat) : Lib.decDigits u ≠ [] := by
  rw [Lib.decDigits]
  split <;> simp
theorem pu_app : ∀ (l r : List UInt8) (acc v : Nat), Lib.parseUint10 acc l = .ok v → Lib.parseUint10 acc (l ++ r) = Lib.parseUint10 v r
  | [], r, acc, v, h => by
    rw [Lib.parseUint10] at h
    cases h
    rfl
  | c :: l, r, acc, v, h => by
    rw [Lib.parseUint10] at h
    rw [List.cons_append, Lib.parseUint10]
    split at h
    · rename_i h1
      rw [if_pos h1]
      split at h
      · cases h
      · rename_i h2
        rw [if_neg h2]
        split at h
        · cases h
        · rename_i h3
          rw [if_neg h3]
          exact pu_app l r _ v h
    · cases h
theorem pu_dec : ∀ (u : Nat), u ≤ 9223372036854775807 → Lib.parseUint10 0 (Lib.decDigits u) = .ok u := by
  intro u
  induction u using Nat.strongRecOn with
  | ind u ih =>
    intro hu
    rw [Lib.decDigits]
    by_cases h : u < 10
    · rw [dif_pos h, Lib.parseUint10, if_pos (by rw [UInt8.toNat_ofNat']; omega), if_neg (by omega), if_neg (by rw [UInt8.toNat_ofNat']; omega), Lib.parseUint10, UInt8.toNat_ofNat']
      congr 1
      omega
    · rw [dif_neg h, pu_app _ _ _ _ (ih (u / 10) (by omega) (by omega)), Lib.parseUint10, if_pos (by rw [UInt8.toNat_ofNat']; omega), if_neg (by omega), if_neg (by rw [UInt8.toNat_ofNat']; omega), Lib.parseUint10, UInt8.toNat_ofNat']
      congr 1
      omega
theorem atoi_itoa {x : Int} (h : okN x = true) : Lib.atoiAll (Lib.itoa x) = .ok x := by
  unfold okN at h
  have h := of_decide_eq_true h
  obtain ⟨u, rfl⟩ : ∃ u : Nat, x = (u : Int) := ⟨x.toNat, by omega⟩
  rw [Lib.itoa_nonneg]
  have hd := dec_dig u
  have hp := pu_dec u (by omega)
  unfold Lib.atoiAll
  cases hl : Lib.decDigits u with
  | nil => exact absurd hl (dec_ne u)
  | cons c r =>
    rw [hl] at hd hp
    have hc := hd c (List.mem_cons_self ..)
    simp only []
    rw [if_neg (show ¬ (c.toNat = 43 ∨ c.toNat = 45) by omega)]
    unfold Lib.parseMag
    rw [if_neg (by simp), hp]
    simp only []
    rw [if_neg (by omega), if_neg (by omega), if_neg (by omega)]
theorem itoa_no32 {x : Int} (h : okN x = true) : (32 : UInt8) ∉ Lib.itoa x := by
  unfold okN at h
  have h := of_decide_eq_true h
  obtain ⟨u, rfl⟩ : ∃ u : Nat, x = (u : Int) := ⟨x.toNat, by omega⟩
  rw [Lib.itoa_nonneg]
  intro hm
  have := dec_dig u _ hm
  simp at this
theorem kind_ok {m : Ms} (h : mayM m = true) : okN m.kind = true ∧ okN m.seq = true ∧ okN m.n = true ∧ okN m.m = true := by
  unfold mayM at h
  simp only [Bool.and_eq_true, decide_eq_true_eq] at h
  refine ⟨decide_eq_true ?_, h.1.1.1.1.1.2, h.1.1.1.1.2, h.1.1.1.2⟩
  have := h.1.1.1.1.1.1
  omega
theorem itoa_inj {x y : Int} (hx : okN x = true) (hy : okN y = true) (h : Lib.itoa x = Lib.itoa y) : x = y := by
  have h1 := atoi_itoa hx
  rw [h, atoi_itoa hy] at h1
  cases h1
  rfl
/-- The head's pieces. -/
theorem head_pcs {m : Ms} (h : mayM m = true) : pcs 32 0 (headL m) = [Lib.itoa m.kind, Lib.itoa m.seq, Lib.itoa m.n, Lib.itoa m.m] := by
  obtain ⟨h1, h2, h3, h4⟩ := kind_ok h
  unfold headL
  rw [pcs_cut (itoa_no32 h1), pcs_cut (itoa_no32 h2), pcs_cut (itoa_no32 h3), pcs_none (itoa_no32 h4)]
  simp
theorem dec_len : ∀ (k u : Nat), u < 10 ^ (k + 1) → (Lib.decDigits u).length ≤ k + 1
  | 0, u, h => by rw [Lib.decDigits, dif_pos (by simpa using h)]; simp
  | k + 1, u, h => by
    rw [Lib.decDigits]
    by_cases h1 : u < 10
    · rw [dif_pos h1]; simp
    · rw [dif_neg h1, List.length_append]
      have := dec_len k (u / 10) (by rw [Nat.pow_succ] at h; omega)
      simp
      omega
theorem itoa_len {x : Int} (h : okN x = true) : (Lib.itoa x).length ≤ 10 := by
  unfold okN at h
  have h := of_decide_eq_true h
  obtain ⟨u, rfl⟩ : ∃ u : Nat, x = (u : Int) := ⟨x.toNat, by omega⟩
  rw [Lib.itoa_nonneg]
  exact dec_len 9 u (by omega)
theorem head_len {m : Ms} (h : mayM m = true) : (headL m).length ≤ 60 := by
  obtain ⟨h1, h2, h3, h4⟩ := kind_ok h
  have a1 := itoa_len h1; have a2 := itoa_len h2; have a3 := itoa_len h3; have a4 := itoa_len h4
  unfold headL
  simp only [List.length_append, List.length_cons]
  omega
-- lines
theorem hexI_dg : ∀ n : Nat, n < 16 → hexI (dig n) = (n : Int) := by decide +kernel
theorem lenI_line (p : List UInt8) (h : p.length ≤ 60000) : lenI ((lineL p).take 4) 0 = ((p.length + 4 : Nat) : Int) := by
  rw [lineL_eq p h]
  show lenI [_, _, _, _] 0 = _
  have e1 := hexI_dg ((p.length + 4) / 4096) (by omega)
  have e2 := hexI_dg ((p.length + 4) / 256 % 16) (by omega)
  have e3 := hexI_dg ((p.length + 4) / 16 % 16) (by omega)
  have e4 := hexI_dg ((p.length + 4) % 16) (by omega)
  simp only [lenI, e1, e2, e3, e4]
  rw [if_neg (by omega), if_neg (by omega), if_neg (by omega), if_neg (by omega)]
  simp only [Int.toNat_natCast]
  omega
/-- Lines one behind the other are told; what follows the end stays. -/
theorem lines_told : ∀ (l : List (List UInt8)) (pre rest : List UInt8) (acc : List (List UInt8)), (∀ p ∈ l, p.length ≤ 60000) →
    linesS (pre ++ linesL l ++ [48, 48, 48, 48] ++ rest) pre.length acc = (acc ++ l, pre.length + (linesL l).length + 4, 0)
  | [], pre, rest, acc, _ => by
    rw [linesS]
    have hl : (pre ++ linesL [] ++ [48, 48, 48, 48] ++ rest).length = pre.length + 4 + rest.length := by simp [linesL]; omega
    have ht : ((pre ++ linesL [] ++ [48, 48, 48, 48] ++ rest).take (pre.length + 4)).drop pre.length = [48, 48, 48, 48] := by
      simp [linesL, List.take_append]
    rw [dif_pos (by omega), if_neg (by omega)]
    simp only [ht]
    rw [if_pos (by decide)]
    simp [linesL]
  | p :: l, pre, rest, acc, h => by
    have hp := h p (List.mem_cons_self ..)
    have hll := lineL_len p
    have e0 : pre ++ linesL (p :: l) ++ [48, 48, 48, 48] ++ rest = pre ++ lineL p ++ (linesL l ++ [48, 48, 48, 48] ++ rest) := by simp [linesL]
    have e1 : pre ++ lineL p ++ (linesL l ++ [48, 48, 48, 48] ++ rest) = (pre ++ lineL p) ++ linesL l ++ [48, 48, 48, 48] ++ rest := by simp
    rw [e0, linesS]
    have hL : (pre ++ lineL p ++ (linesL l ++ [48, 48, 48, 48] ++ rest)).length = pre.length + (p.length + 4) + (linesL l ++ [48, 48, 48, 48] ++ rest).length := by
      rw [List.length_append, List.length_append, hll]
    have ht : ((pre ++ lineL p ++ (linesL l ++ [48, 48, 48, 48] ++ rest)).take (pre.length + 4)).drop pre.length = (lineL p).take 4 := by
      rw [List.append_assoc, List.take_append, List.take_of_length_le (by omega), List.drop_append, List.drop_eq_nil_of_le (by omega), List.nil_append, show pre.length + 4 - pre.length = 4 by omega, Nat.sub_self, List.drop_zero, List.take_append, show 4 - (lineL p).length = 0 by omega, List.take_zero, List.append_nil]
    have hq : ((pre ++ lineL p ++ (linesL l ++ [48, 48, 48, 48] ++ rest)).take (pre.length + (p.length + 4))).drop (pre.length + 4) = p := by
      rw [List.take_left' (by rw [List.length_append, hll]), List.drop_append, List.drop_eq_nil_of_le (by omega), List.nil_append, show pre.length + 4 - pre.length = 4 by omega]
      rw [lineL_eq p hp]
      rfl
    rw [dif_pos (by omega), if_neg (by omega)]
    simp only [ht, lenI_line p hp]
    rw [if_neg (by omega), if_neg (by omega), if_neg (by omega), Int.toNat_natCast, hq, e1]
    have ih := lines_told l (pre ++ lineL p) rest (acc ++ [p]) (fun q hq => h q (List.mem_cons_of_mem _ hq))
    rw [List.length_append, hll] at ih
    rw [ih]
    simp [linesL, hll]
    omega
theorem valid_len {s : ByteArray} (h : validB s = true) : s.size = 64 := by
  unfold validB at h
  cases hu : unhexL (bL s) with
  | none => rw [hu] at h; cases h
  | some r =>
    rw [hu] at h
    have hr : r.length = 32 := of_decide_eq_true h
    have h9 := unhexL_len _ _ _ rfl hu
    have h8 : (bL s).length = s.size := by unfold bL; exact Array.length_toList
    omega
theorem pieces_le {m : Ms} (h : mayM m = true) : ∀ p ∈ piecesM m, p.length ≤ 60000 := by
  have hh := head_len h
  unfold mayM at h
  simp only [Bool.and_eq_true, decide_eq_true_eq] at h
  intro p hp
  unfold piecesM at hp
  rcases List.mem_cons.1 hp with rfl | hp
  · omega
  · rcases List.mem_append.1 hp with hp | hp
    · obtain ⟨s, hs, rfl⟩ := List.mem_map.1 hp
      have := valid_len (List.all_eq_true.1 h.1.1.2 s hs)
      unfold bL
      rw [Array.length_toList]
      have h2 : s.size = s.data.size := rfl
      omega
    · simp at hp
      rcases hp with rfl | rfl
      · simp
      · omega
theorem body_lines {m : Ms} (h : mayM m = true) (rest : List UInt8) : linesS (bodyM m ++ rest) 0 [] = (piecesM m, (bodyM m).length, 0) := by
  have h1 := lines_told (piecesM m) [] rest [] (pieces_le h)
  unfold bodyM
  rw [List.nil_append] at h1
  rw [show ([] : List UInt8).length = 0 from rfl] at h1
  rw [h1]
  simp
theorem fourL_len (s : W32) : (fourL s).length = 4 := rfl
theorem linesL_len : ∀ l : List (List UInt8), (linesL l).length = (l.map List.length).sum + 4 * l.length
  | [] => rfl
  | p :: l => by
    have := linesL_len l
    unfold linesL at this ⊢
    rw [List.flatMap_cons, List.length_append, lineL_len, this, List.map_cons, List.sum_cons, List.length_cons]
    omega
theorem pieces_len (m : Ms) : (piecesM m).length = m.ids.length + 3 := by unfold piecesM; simp
theorem enc_len8 (m : Ms) : (encM m).length = (bodyM m).length + 4 ∧ 16 ≤ (bodyM m).length := by
  refine ⟨by unfold encM; rw [List.length_append, fourL_len], ?_⟩
  unfold bodyM
  rw [List.length_append, linesL_len, pieces_len]
  simp
  omega
theorem pieces_inj {m m' : Ms} (h : mayM m = true) (h' : mayM m' = true) (he : piecesM m = piecesM m') : m = m' := by
  unfold piecesM at he
  injection he with e1 e2
  have p1 := head_pcs h
  rw [e1, head_pcs h'] at p1
  obtain ⟨a1, a2, a3, a4⟩ := kind_ok h
  obtain ⟨b1, b2, b3, b4⟩ := kind_ok h'
  simp only [List.cons.injEq, and_true] at p1
  obtain ⟨k1, k2, k3, k4⟩ := p1
  have hl := congrArg List.length e2
  simp at hl
  have e3 := List.append_inj e2 (by simpa using hl)
  obtain ⟨kind, seq, n, mm, ids, data⟩ := m
  obtain ⟨kind', seq', n', mm', ids', data'⟩ := m'
  simp only at *
  obtain rfl := itoa_inj b1 a1 k1
  obtain rfl := itoa_inj b2 a2 k2
  obtain rfl := itoa_inj b3 a3 k3
  obtain rfl := itoa_inj b4 a4 k4
  have hd : data = data' := by simpa using e3.2
  subst hd
  have hi : ids = ids' := by
    have := congrArg (List.map str) e3.1
    simpa [List.map_map, Function.comp_def, str_bL] using this
  subst hi
  rfl
/-- A message's bytes that begin another one's are all of it. -/
theorem enc_pre {m m' : Ms} (h : mayM m = true) (h' : mayM m' = true) {rest : List UInt8} (he : encM m = encM m' ++ rest) : m = m' ∧ rest = [] := by
  have h1 := body_lines h (fourL (crcS (bodyM m)))
  have h2 := body_lines h' (fourL (crcS (bodyM m')) ++ rest)
  have e : bodyM m ++ fourL (crcS (bodyM m)) = bodyM m' ++ (fourL (crcS (bodyM m')) ++ rest) := by
    have : encM m = encM m' ++ rest := he
    unfold encM at this
    rw [this, List.append_assoc]
  rw [e, h2] at h1
  have hp : piecesM m' = piecesM m := (Prod.mk.inj h1).1
  have hm := pieces_inj h h' hp.symm
  subst hm
  refine ⟨rfl, ?_⟩
  have := congrArg List.length he
  rw [List.length_append] at this
  exact List.eq_nil_of_length_eq_zero (by omega)
theorem encM_inj {m m' : Ms} (h : mayM m = true) (h' : mayM m' = true) (he : encM m = encM m') : m = m' := (enc_pre h h' (rest := []) (by rw [he, List.append_nil])).1
theorem DecM.uniq {b : List UInt8} {M M' : Ms} {e e' : Int} (h : DecM b M e) (h' : DecM b M' e') : M = M' ∧ e = e' := by
  rcases h with ⟨rfl, h1, h2⟩ | ⟨rfl, rfl, h1⟩ <;> rcases h' with ⟨rfl, h3, h4⟩ | ⟨rfl, rfl, h3⟩
  · exact ⟨encM_inj h1 h3 (h2.trans h4.symm), rfl⟩
  · exact absurd h2 (h3 _ h1)
  · exact absurd h4 (h1 _ h3)
  · exact ⟨rfl, rfl⟩
/-- Reading: too short; another sum; no lines. -/
theorem dec_short {b : List UInt8} (h : b.length < 8) : DecM b noMs 2 := .inr ⟨by unfold errM; rw [if_pos h], rfl, fun m _ he => by have := enc_len8 m; rw [he] at this; omega⟩
theorem enc_parts (m : Ms) : (encM m).take ((encM m).length - 4) = bodyM m ∧ (encM m).drop ((encM m).length - 4) = fourL (crcS (bodyM m)) := by
  have := (enc_len8 m).1
  rw [show (encM m).length - 4 = (bodyM m).length by omega]
  unfold encM
  exact ⟨List.take_left, List.drop_left⟩
theorem dec_sum {b : List UInt8} (h8 : ¬ b.length < 8) (h : fourL (crcS (b.take (b.length - 4))) ≠ b.drop (b.length - 4)) : DecM b noMs 5 := .inr ⟨by unfold errM; rw [if_neg h8, if_neg h], rfl, fun m _ he => by
  have := enc_parts m
  rw [he] at this
  exact h (by rw [this.1, this.2])⟩
theorem dec_form {b : List UInt8} (h8 : ¬ b.length < 8) (h : fourL (crcS (b.take (b.length - 4))) = b.drop (b.length - 4)) (hno : ∀ m, mayM m = true → encM m ≠ b) : DecM b noMs 4 := .inr ⟨by unfold errM; rw [if_neg h8, if_pos h], rfl, hno⟩
/-- What the lines of a message's bytes are. -/
theorem dec_lines {b : List UInt8} {m : Ms} (h : mayM m = true) (he : encM m = b) : linesS (b.take (b.length - 4)) 0 [] = (piecesM m, (bodyM m).length, 0) := by
  subst he
  rw [(enc_parts m).1]
  have := body_lines h []
  rwa [List.append_nil] at this
/-- The numbers that a text's pieces are. -/
def numA (l : List (List UInt8)) (i : Nat) : Int := match l[i]? with | some s => (match Lib.atoiAll s with | .ok v => v | _ => -1) | none => -1
def readM (l : List (List UInt8)) : Ms :=
  if l.length < 3 then noMs else ⟨numA (pcs 32 0 (l.getD 0 [])) 0, numA (pcs 32 0 (l.getD 0 [])) 1, numA (pcs 32 0 (l.getD 0 [])) 2, numA (pcs 32 0 (l.getD 0 [])) 3, ((l.take (l.length - 2)).drop 1).map str, l.getD (l.length - 1) []⟩
theorem read_pieces {m : Ms} (h : mayM m = true) : readM (piecesM m) = m := by
  obtain ⟨h1, h2, h3, h4⟩ := kind_ok h
  unfold readM
  rw [if_neg (by rw [pieces_len]; omega)]
  have e0 : (piecesM m).getD 0 [] = headL m := rfl
  rw [e0, head_pcs h, pieces_len]
  have e1 : (piecesM m).getD (m.ids.length + 3 - 1) [] = m.data := by
    unfold piecesM
    rw [List.getD_eq_getElem?_getD, show m.ids.length + 3 - 1 = (m.ids.length + 1) + 1 by omega, List.getElem?_cons_succ, List.getElem?_append_right (by simp)]
    simp
  have e2 : (((piecesM m).take (m.ids.length + 3 - 2)).drop 1).map str = m.ids := by
    unfold piecesM
    rw [show m.ids.length + 3 - 2 = m.ids.length + 1 by omega, List.take_succ_cons, List.drop_succ_cons, List.drop_zero, List.take_left' (by simp), List.map_map]
    simp [Function.comp_def, str_bL]
  rw [e1, e2]
  simp only [numA, List.getElem?_cons_zero, List.getElem?_cons_succ, atoi_itoa h1, atoi_itoa h2, atoi_itoa h3, atoi_itoa h4]
/-- Reading, where there are lines. -/
theorem dec_read {b : List UInt8} {m : Ms} {ls : List (List UInt8)} {k : Nat} {e : Int} (hl : linesS (b.take (b.length - 4)) 0 [] = (ls, k, e)) (h : mayM m = true) (he : encM m = b) : e = 0 ∧ ls = piecesM m ∧ readM ls = m := by
  have h1 := dec_lines h he
  rw [hl] at h1
  obtain ⟨rfl, h2⟩ := Prod.mk.inj h1
  obtain ⟨_, rfl⟩ := Prod.mk.inj h2
  exact ⟨rfl, rfl, read_pieces h⟩
end Go.Mx
