/- The hash of bytes, in plain Lean. Packs: the plain mathematics of making one (no program in sight). -/
import Derived.Test.YtlfdnlomlbbicaaGreatDoorLib2
import Derived.Test.YtlfdnlomlbbicaaGreatDoorDelZ
namespace Go.Mx
open Go Go.RowKit

abbrev U32 := BitVec 32
def rotr (x : U32) (n : Nat) : U32 := (x >>> n) ||| (x <<< (32 - n))
def sig0 (x : U32) : U32 := (rotr x 7 ^^^ rotr x 18) ^^^ (x >>> 3)
def sig1 (x : U32) : U32 := (rotr x 17 ^^^ rotr x 19) ^^^ (x >>> 10)
def by32 (x : UInt8) : U32 := BitVec.ofNat 32 x.toNat
/-- A word of a block. -/
def word (b : List UInt8) (i : Nat) : U32 :=
  (((by32 (b.getD (4 * i) 0) <<< 24) ||| (by32 (b.getD (4 * i + 1) 0) <<< 16)) ||| (by32 (b.getD (4 * i + 2) 0) <<< 8)) ||| by32 (b.getD (4 * i + 3) 0)
/-- The next word of the schedule. -/
def nextW (b : List UInt8) (l : List U32) (n : Nat) : U32 :=
  if n < 16 then word b n else ((l.getD (n - 16) 0 + sig0 (l.getD (n - 15) 0)) + l.getD (n - 7) 0) + sig1 (l.getD (n - 2) 0)
/-- The first n words of the schedule. -/
def sched (b : List UInt8) : Nat → List U32
  | 0 => []
  | n + 1 => sched b n ++ [nextW b (sched b n) n]
theorem sched_len (b : List UInt8) : ∀ n, (sched b n).length = n
  | 0 => rfl
  | n + 1 => by rw [sched, List.length_append, sched_len b n]; rfl

structure S8 where
  a : U32
  b : U32
  c : U32
  d : U32
  e : U32
  f : U32
  g : U32
  h : U32
deriving DecidableEq
def S8.lst (s : S8) : List U32 := [s.a, s.b, s.c, s.d, s.e, s.f, s.g, s.h]
theorem S8.lst_len (s : S8) : s.lst.length = 8 := rfl
def sg1 (e : U32) : U32 := (rotr e 6 ^^^ rotr e 11) ^^^ rotr e 25
def sg0 (a : U32) : U32 := (rotr a 2 ^^^ rotr a 13) ^^^ rotr a 22
def chf (e f g : U32) : U32 := (e &&& f) ^^^ (~~~e &&& g)
def majf (a b c : U32) : U32 := ((a &&& b) ^^^ (a &&& c)) ^^^ (b &&& c)
def tm1 (s : S8) (k w : U32) : U32 := (((s.h + sg1 s.e) + chf s.e s.f s.g) + k) + w
def rnd (s : S8) (k w : U32) : S8 := ⟨(tm1 s k w + sg0 s.a) + majf s.a s.b s.c, s.a, s.b, s.c, s.d + tm1 s k w, s.e, s.f, s.g⟩
def rnds (ks ws : List U32) (s : S8) : Nat → S8
  | 0 => s
  | n + 1 => rnd (rnds ks ws s n) (ks.getD n 0) (ws.getD n 0)
def S8.add (s t : S8) : S8 := ⟨s.a + t.a, s.b + t.b, s.c + t.c, s.d + t.d, s.e + t.e, s.f + t.f, s.g + t.g, s.h + t.h⟩

/-- The 64 numbers. -/
def K64 : List U32 := [
  0x428a2f98#32, 0x71374491#32, 0xb5c0fbcf#32, 0xe9b5dba5#32, 0x3956c25b#32, 0x59f111f1#32, 0x923f82a4#32, 0xab1c5ed5#32,
  0xd807aa98#32, 0x12835b01#32, 0x243185be#32, 0x550c7dc3#32, 0x72be5d74#32, 0x80deb1fe#32, 0x9bdc06a7#32, 0xc19bf174#32,
  0xe49b69c1#32, 0xefbe4786#32, 0x0fc19dc6#32, 0x240ca1cc#32, 0x2de92c6f#32, 0x4a7484aa#32, 0x5cb0a9dc#32, 0x76f988da#32,
  0x983e5152#32, 0xa831c66d#32, 0xb00327c8#32, 0xbf597fc7#32, 0xc6e00bf3#32, 0xd5a79147#32, 0x06ca6351#32, 0x14292967#32,
  0x27b70a85#32, 0x2e1b2138#32, 0x4d2c6dfc#32, 0x53380d13#32, 0x650a7354#32, 0x766a0abb#32, 0x81c2c92e#32, 0x92722c85#32,
  0xa2bfe8a1#32, 0xa81a664b#32, 0xc24b8b70#32, 0xc76c51a3#32, 0xd192e819#32, 0xd6990624#32, 0xf40e3585#32, 0x106aa070#32,
  0x19a4c116#32, 0x1e376c08#32, 0x2748774c#32, 0x34b0bcb5#32, 0x391c0cb3#32, 0x4ed8aa4a#32, 0x5b9cca4f#32, 0x682e6ff3#32,
  0x748f82ee#32, 0x78a5636f#32, 0x84c87814#32, 0x8cc70208#32, 0x90befffa#32, 0xa4506ceb#32, 0xbef9a3f7#32, 0xc67178f2#32]
def I8 : S8 := ⟨0x6a09e667#32, 0xbb67ae85#32, 0x3c6ef372#32, 0xa54ff53a#32, 0x510e527f#32, 0x9b05688c#32, 0x1f83d9ab#32, 0x5be0cd19#32⟩
/-- A block taken. -/
def comp (s : S8) (b : List UInt8) : S8 := s.add (rnds K64 (sched b 64) s 64)
def eatN : Nat → S8 → List UInt8 → S8
  | 0, s, _ => s
  | n + 1, s, l => eatN n (comp s (l.take 64)) (l.drop 64)
/-- The state behind all whole blocks; what is left. -/
def eatS (s : S8) (l : List UInt8) : S8 := eatN (l.length / 64) s l
def eatR (l : List UInt8) : List UInt8 := l.drop (l.length / 64 * 64)
theorem eatN_snoc : ∀ (n : Nat) (s : S8) (l : List UInt8), eatN (n + 1) s l = comp (eatN n s l) ((l.drop (64 * n)).take 64)
  | 0, s, l => by simp [eatN]
  | n + 1, s, l => by
    rw [eatN, eatN_snoc n, eatN, List.drop_drop]
    congr 3
    omega
theorem eatN_app : ∀ (n m : Nat) (s : S8) (l : List UInt8), eatN (n + m) s l = eatN m (eatN n s l) (l.drop (64 * n))
  | 0, m, s, l => by simp [eatN]
  | n + 1, m, s, l => by
    rw [show n + 1 + m = (n + m) + 1 by omega, eatN, eatN_app n m, eatN, List.drop_drop]
    congr 2
    omega
theorem eatN_pre : ∀ (n : Nat) (s : S8) (l m : List UInt8), 64 * n ≤ l.length → eatN n s (l ++ m) = eatN n s l
  | 0, _, _, _, _ => rfl
  | n + 1, s, l, m, h => by
    rw [eatN, eatN, List.take_append_of_le_length (by omega), List.drop_append_of_le_length (by omega)]
    exact eatN_pre n _ _ _ (by rw [List.length_drop]; omega)
theorem eatR_len (l : List UInt8) : (eatR l).length = l.length % 64 := by unfold eatR; rw [List.length_drop]; omega
theorem eatR_lt (l : List UInt8) : (eatR l).length < 64 := by rw [eatR_len]; omega
/-- A piece more. -/
theorem eatS_app (s : S8) (l m : List UInt8) : eatS s (l ++ m) = eatS (eatS s l) (eatR l ++ m) := by
  unfold eatS
  have h1 : (l ++ m).length / 64 = l.length / 64 + (eatR l ++ m).length / 64 := by
    rw [List.length_append, List.length_append, eatR_len]; omega
  rw [h1, eatN_app, eatN_pre _ _ l m (by omega)]
  congr 1
  unfold eatR
  rw [List.drop_append_of_le_length (by omega), Nat.mul_comm]
theorem eatR_app (l m : List UInt8) : eatR (l ++ m) = eatR (eatR l ++ m) := by
  unfold eatR
  have h2 : (l.drop (l.length / 64 * 64)).length = l.length % 64 := eatR_len l
  rw [List.length_append, List.length_append, h2]
  have h3 : (l.length + m.length) / 64 * 64 = l.length / 64 * 64 + (l.length % 64 + m.length) / 64 * 64 := by omega
  rw [h3, ← List.drop_drop, List.drop_append_of_le_length (by omega)]
theorem eatS_small (s : S8) {l : List UInt8} (h : l.length < 64) : eatS s l = s := by unfold eatS; rw [Nat.div_eq_of_lt h]; rfl
theorem eatR_small {l : List UInt8} (h : l.length < 64) : eatR l = l := by unfold eatR; rw [Nat.div_eq_of_lt h]; simp
/-- One block is taken. -/
theorem eatS_step (s : S8) {l : List UInt8} (h : 64 ≤ l.length) : eatS s l = eatS (comp s (l.take 64)) (l.drop 64) := by
  unfold eatS
  rw [List.length_drop, show l.length / 64 = (l.length - 64) / 64 + 1 by omega, eatN]
theorem eatR_step {l : List UInt8} (h : 64 ≤ l.length) : eatR l = eatR (l.drop 64) := by
  unfold eatR
  rw [List.length_drop, List.drop_drop]
  congr 1
  omega

/-- Eight bytes of a number, the greatest first. -/
def be8 (n : Nat) : List UInt8 := (List.range 8).map fun i => UInt8.ofNat (n / 2 ^ (56 - 8 * i))
def padZ (n : Nat) : Nat := (119 - n % 64) % 64
def pad (n : Nat) : List UInt8 := 0x80 :: (List.replicate (padZ n) 0 ++ be8 (8 * n))
def padH (n : Nat) : List UInt8 := 0x80 :: List.replicate (padZ n) 0
theorem be8_len (n : Nat) : (be8 n).length = 8 := by simp [be8]
theorem pad_len (n : Nat) : (n + (pad n).length) % 64 = 0 := by
  simp only [pad, padZ, List.length_cons, List.length_append, List.length_replicate, be8_len]; omega
/-- A word's four bytes. -/
def w4 (x : U32) : List UInt8 := [UInt8.ofNat (x >>> 24).toNat, UInt8.ofNat (x >>> 16).toNat, UInt8.ofNat (x >>> 8).toNat, UInt8.ofNat x.toNat]
def outW (l : List U32) : List UInt8 := (l.map w4).flatten
theorem outW_len (l : List U32) : (outW l).length = 4 * l.length := by
  induction l with
  | nil => rfl
  | cons x l ih => unfold outW at ih ⊢; rw [List.map_cons, List.flatten_cons, List.length_append, ih]; simp [w4]; omega
/-- The hash. -/
def sha (l : List UInt8) : List UInt8 := outW (eatS I8 (l ++ pad l.length)).lst
theorem sha_len (l : List UInt8) : (sha l).length = 32 := by unfold sha; rw [outW_len, S8.lst_len]
theorem sha_eat (l : List UInt8) : sha l = outW (eatS (eatS I8 l) (eatR l ++ pad l.length)).lst := by unfold sha; rw [eatS_app]
set_option maxRecDepth 100000 in
theorem sha_abc : sha [97, 98, 99] = [0xba, 0x78, 0x16, 0xbf, 0x8f, 0x01, 0xcf, 0xea, 0x41, 0x41, 0x40, 0xde, 0x5d, 0xae, 0x22, 0x23, 0xb0, 0x03, 0x61, 0xa3, 0x96, 0x17, 0x7a, 0x9c, 0xb4, 0x10, 0xff, 0x61, 0xf2, 0x00, 0x15, 0xad] := by kernel_rfl
theorem sha_nil : (sha []).take 4 = [0xe3, 0xb0, 0xc4, 0x42] := by kernel_rfl

/-- Words as cells. -/
def u32s (l : List U32) : List Value := l.map fun x => Value.int .u32 (x.toNat : Int)
theorem u32s_len (l : List U32) : (u32s l).length = l.length := by simp [u32s]
theorem u32s_get {l : List U32} {k : Nat} (h : k < l.length) : (u32s l)[k]? = some (.int .u32 (l[k].toNat : Int)) := by simp [u32s, h]
theorem u32s_app (l m : List U32) : u32s (l ++ m) = u32s l ++ u32s m := by simp [u32s]
end Go.Mx

namespace Go.Mx
open Go Go.RowKit

/-- How far back the nearest one lies by which one may be told, the latest first; 0: there is none. -/
def nearA (x : List UInt8) : List (List UInt8 × Nat) → Nat
  | [] => 0
  | p :: r => if p.1.head? = x.head? ∧ p.2 < 8 then 1 else if nearA x r = 0 then 0 else nearA x r + 1
def nearN (pre : List (List UInt8 × Nat)) (x : List UInt8) : Nat := nearA x pre.reverse
theorem nearA_le (x : List UInt8) : ∀ r, nearA x r ≤ r.length
  | [] => Nat.le_refl _
  | p :: r => by
    rw [nearA, List.length_cons]
    have := nearA_le x r
    split
    · omega
    · split <;> omega
theorem nearA_ok (x : List UInt8) : ∀ (r : List (List UInt8 × Nat)), nearA x r ≠ 0 → ∃ p, r[nearA x r - 1]? = some p ∧ p.1.head? = x.head? ∧ p.2 < 8
  | [], h => absurd rfl h
  | p :: r, h => by
    rw [nearA] at h ⊢
    split
    · rename_i hp
      exact ⟨p, rfl, hp⟩
    · rename_i hp
      rw [if_neg hp] at h
      split
      · rename_i h0
        rw [if_pos h0] at h
        exact absurd rfl h
      · rename_i h0
        obtain ⟨q, hq, h1⟩ := nearA_ok x r h0
        refine ⟨q, ?_, h1⟩
        rw [show nearA x r + 1 - 1 = (nearA x r - 1) + 1 by omega, List.getElem?_cons_succ]
        exact hq
theorem nearA_has (x : List UInt8) : ∀ (r : List (List UInt8 × Nat)) {p : List UInt8 × Nat}, p ∈ r → p.1.head? = x.head? → p.2 < 8 → nearA x r ≠ 0
  | q :: r, p, h, h1, h2 => by
    rw [nearA]
    split
    · omega
    · rename_i hq
      rcases List.mem_cons.1 h with rfl | h
      · exact absurd ⟨h1, h2⟩ hq
      · rw [if_neg (nearA_has x r h h1 h2)]
        omega
/-- As the program looks: from the end, k steps looked at already. -/
theorem nearA_drop (x : List UInt8) : ∀ (r : List (List UInt8 × Nat)) (k : Nat), (∀ j, j < k → ∀ p, r[j]? = some p → ¬ (p.1.head? = x.head? ∧ p.2 < 8)) → nearA x r = if nearA x (r.drop k) = 0 then 0 else nearA x (r.drop k) + k
  | r, 0, _ => by rw [List.drop_zero]; split <;> omega
  | [], k + 1, _ => by rw [List.drop_nil]; rfl
  | p :: r, k + 1, h => by
    rw [nearA, if_neg (h 0 (by omega) p rfl), List.drop_succ_cons, nearA_drop x r k (fun j hj q hq => h (j + 1) (by omega) q (by simpa using hq))]
    split
    · rfl
    · rename_i h0
      rw [if_neg (by omega)]
      omega
theorem nearN_le (pre : List (List UInt8 × Nat)) (x : List UInt8) : nearN pre x ≤ pre.length := by
  have := nearA_le x pre.reverse
  rwa [List.length_reverse] at this
theorem nearN_ok {pre : List (List UInt8 × Nat)} {x : List UInt8} (h : nearN pre x ≠ 0) : ∃ p, pre[pre.length - nearN pre x]? = some p ∧ p.1.head? = x.head? ∧ p.2 < 8 := by
  obtain ⟨p, hp, h1⟩ := nearA_ok x pre.reverse h
  refine ⟨p, ?_, h1⟩
  have hl := nearA_le x pre.reverse
  rw [List.length_reverse] at hl
  have hk : nearA x pre.reverse - 1 < pre.length := by unfold nearN at h; omega
  rw [List.getElem?_reverse hk] at hp
  rw [← hp]
  unfold nearN
  congr 1
  unfold nearN at h
  omega
/-- Place k is looked at; the later ones were none. -/
theorem nearN_at {pre : List (List UInt8 × Nat)} {x : List UInt8} {k : Nat} {p : List UInt8 × Nat} (hk : pre[k]? = some p) (h1 : p.1.head? = x.head? ∧ p.2 < 8) (hno : ∀ j, k < j → ∀ q, pre[j]? = some q → ¬ (q.1.head? = x.head? ∧ q.2 < 8)) : nearN pre x = pre.length - k := by
  have hlt : k < pre.length := (List.getElem?_eq_some_iff.1 hk).1
  unfold nearN
  rw [nearA_drop x pre.reverse (pre.length - 1 - k) (fun j hj q hq => by
    rw [List.getElem?_reverse (by omega)] at hq
    exact hno _ (by omega) q hq)]
  have hg : pre.reverse[pre.length - 1 - k]? = some p := by
    rw [List.getElem?_reverse (by omega), ← hk]
    congr 1
    omega
  obtain ⟨hl, he⟩ := List.getElem?_eq_some_iff.1 hg
  rw [List.drop_eq_getElem_cons hl, he, nearA, if_pos h1, if_neg (by omega)]
  omega
theorem nearN_no {pre : List (List UInt8 × Nat)} {x : List UInt8} (hno : ∀ (j : Nat) (q : List UInt8 × Nat), pre[j]? = some q → ¬ (q.1.head? = x.head? ∧ q.2 < 8)) : nearN pre x = 0 := by
  by_cases h : nearN pre x = 0
  · exact h
  · obtain ⟨p, hp, h1⟩ := nearN_ok h
    exact absurd h1 (hno _ p hp)

/-- What tells one object, behind others; its depth. -/
def whP (x : List UInt8) : List UInt8 := 0 :: (putL x.length ++ x)
def entP (pre : List (List UInt8 × Nat)) (x : List UInt8) : List UInt8 × Nat :=
  if nearN pre x = 0 then (whP x, 0)
  else if (makeR (pre.getD (pre.length - nearN pre x) ([], 0)).1 x).length < x.length then
    (1 :: (putL (nearN pre x) ++ (putL (makeR (pre.getD (pre.length - nearN pre x) ([], 0)).1 x).length ++ makeR (pre.getD (pre.length - nearN pre x) ([], 0)).1 x)), (pre.getD (pre.length - nearN pre x) ([], 0)).2 + 1)
  else (whP x, 0)
theorem ent_0 {pre : List (List UInt8 × Nat)} {x : List UInt8} (h : nearN pre x = 0) : entP pre x = (whP x, 0) := by unfold entP; rw [if_pos h]
theorem ent_1 {pre : List (List UInt8 × Nat)} {x b : List UInt8} {n d : Nat} (h : nearN pre x = n) (h0 : n ≠ 0) (hp : pre[pre.length - n]? = some (b, d)) (hm : (makeR b x).length < x.length) : entP pre x = (1 :: (putL n ++ (putL (makeR b x).length ++ makeR b x)), d + 1) := by
  have hg : pre.getD (pre.length - n) ([], 0) = (b, d) := by rw [List.getD_eq_getElem?_getD, hp]; rfl
  unfold entP
  rw [h, hg, if_neg h0, if_pos hm]
theorem ent_2 {pre : List (List UInt8 × Nat)} {x b : List UInt8} {n d : Nat} (h : nearN pre x = n) (h0 : n ≠ 0) (hp : pre[pre.length - n]? = some (b, d)) (hm : ¬ (makeR b x).length < x.length) : entP pre x = (whP x, 0) := by
  have hg : pre.getD (pre.length - n) ([], 0) = (b, d) := by rw [List.getD_eq_getElem?_getD, hp]; rfl
  unfold entP
  rw [h, hg, if_neg h0, if_neg hm]
def pkStep (s : List UInt8 × List (List UInt8 × Nat)) (x : List UInt8) : List UInt8 × List (List UInt8 × Nat) := (s.1 ++ (entP s.2 x).1, s.2 ++ [(x, (entP s.2 x).2)])
def pkAll (l : List (List UInt8)) : List UInt8 × List (List UInt8 × Nat) := l.foldl pkStep ([], [])
def pkB (l : List (List UInt8)) : List UInt8 := [77, 80, 49] ++ putL l.length ++ (pkAll l).1
def packL (l : List (List UInt8)) : List UInt8 := pkB l ++ sha (pkB l)
theorem pk_snoc (l : List (List UInt8)) (x : List UInt8) : pkAll (l ++ [x]) = pkStep (pkAll l) x := by
  unfold pkAll
  rw [List.foldl_append]
  rfl
theorem pk_take {l : List (List UInt8)} {i : Nat} (h : i < l.length) : pkAll (l.take (i + 1)) = pkStep (pkAll (l.take i)) l[i] := by rw [List.take_succ_eq_append_getElem h, pk_snoc]
/-- By one more from the end. -/
theorem pk_ind {P : List (List UInt8) → Prop} (h0 : P []) (h1 : ∀ l x, P l → P (l ++ [x])) (l : List (List UInt8)) : P l := by
  have : ∀ n, n ≤ l.length → P (l.take n) := by
    intro n
    induction n with
    | zero => intro _; rw [List.take_zero]; exact h0
    | succ n ih =>
      intro hn
      rw [List.take_succ_eq_append_getElem (by omega)]
      exact h1 _ _ (ih (by omega))
  have h2 := this l.length (Nat.le_refl _)
  rwa [List.take_length] at h2
theorem pk_fst (l : List (List UInt8)) : (pkAll l).2.map Prod.fst = l := by
  induction l using pk_ind with
  | h0 => rfl
  | h1 l x ih => rw [pk_snoc, pkStep, List.map_append, ih]; rfl
theorem pk_len (l : List (List UInt8)) : (pkAll l).2.length = l.length := by
  have := congrArg List.length (pk_fst l)
  rwa [List.length_map] at this
theorem ent_depth {pre : List (List UInt8 × Nat)} (x : List UInt8) : (entP pre x).2 ≤ 8 := by
  by_cases h : nearN pre x = 0
  · rw [ent_0 h]; omega
  · obtain ⟨⟨b, d⟩, hp, _, h2⟩ := nearN_ok h
    by_cases hm : (makeR b x).length < x.length
    · rw [ent_1 rfl h hp hm]
      simp only at h2 ⊢
      omega
    · rw [ent_2 rfl h hp hm]; omega
theorem pk_depth (l : List (List UInt8)) : ∀ p ∈ (pkAll l).2, p.2 ≤ 8 := by
  induction l using pk_ind with
  | h0 => intro p hp; cases hp
  | h1 l x ih =>
    intro p hp
    rw [pk_snoc, pkStep] at hp
    rcases List.mem_append.1 hp with hp | hp
    · exact ih p hp
    · rw [List.mem_singleton.1 hp]
      exact ent_depth x

theorem putL_1 {n : Nat} (h : n ≤ 127) : (putL n).length = 1 := by rw [putL, dif_pos (by omega)]; rfl
theorem ent_len {pre : List (List UInt8 × Nat)} {x : List UInt8} (hx : x.length ≤ 2000) (hl : pre.length ≤ 127) : (entP pre x).1.length ≤ x.length + 3 := by
  have hw : (whP x).length ≤ x.length + 3 := by
    have := putL_2 hx
    simp only [whP, List.length_cons, List.length_append]
    omega
  by_cases h : nearN pre x = 0
  · rw [ent_0 h]; exact hw
  · obtain ⟨⟨b, d⟩, hp, _, h2⟩ := nearN_ok h
    by_cases hm : (makeR b x).length < x.length
    · rw [ent_1 rfl h hp hm]
      have h3 := putL_1 (n := nearN pre x) (by have := nearN_le pre x; omega)
      have h4 := putL_2 (n := (makeR b x).length) (by omega)
      simp only [List.length_cons, List.length_append]
      omega
    · rw [ent_2 rfl h hp hm]; exact hw
theorem pk_size {l : List (List UInt8)} : (∀ x ∈ l, x.length ≤ 2000) → l.length ≤ 127 → (pkAll l).1.length ≤ (l.map List.length).sum + 3 * l.length := by
  induction l using pk_ind with
  | h0 => intro _ _; exact Nat.le_refl _
  | h1 l x ih =>
    intro hx hl
    have h1 := ih (fun y hy => hx y (List.mem_append_left _ hy)) (by simp at hl; omega)
    have h2 := ent_len (pre := (pkAll l).2) (hx x (by simp)) (by rw [pk_len]; simp at hl; omega)
    rw [pk_snoc, pkStep]
    simp only [List.length_append, List.map_append, List.sum_append, List.map_cons, List.map_nil, List.sum_cons, List.sum_nil, List.length_cons, List.length_nil]
    omega
theorem sha_32 (l : List UInt8) : (sha l).length = 32 := sha_len l
theorem pack_size {l : List (List UInt8)} (hx : ∀ x ∈ l, x.length ≤ 2000) (hl : l.length ≤ 127) : (packL l).length ≤ 36 + 3 * l.length + (l.map List.length).sum := by
  have h1 := pk_size hx hl
  have h2 := putL_1 hl
  have h3 := sha_32 (pkB l)
  simp only [packL, pkB, List.length_append, List.length_cons, List.length_nil] at h3 ⊢
  omega
/-- Objects alike: the later ones are told by an earlier one. -/
theorem pk_same {x : List UInt8} (h20 : 20 ≤ x.length) (hx : x.length ≤ 2000) : ∀ (n : Nat), n ≤ 120 → (∀ p ∈ (pkAll (List.replicate n x)).2, p.1 = x) ∧ (1 ≤ n → (∃ p ∈ (pkAll (List.replicate n x)).2, p.2 = 0) ∧ (pkAll (List.replicate n x)).1.length ≤ x.length + 3 + 11 * (n - 1))
  | 0, _ => ⟨fun p hp => (by cases hp), fun h => by omega⟩
  | n + 1, hn => by
    obtain ⟨ih1, ih2⟩ := pk_same h20 hx n (by omega)
    rw [List.replicate_succ', pk_snoc, pkStep]
    have hfst : ∀ p ∈ (pkAll (List.replicate n x)).2 ++ [(x, (entP (pkAll (List.replicate n x)).2 x).2)], p.1 = x := by
      intro p hp
      rcases List.mem_append.1 hp with hp | hp
      · exact ih1 p hp
      · rw [List.mem_singleton.1 hp]
    refine ⟨hfst, fun _ => ?_⟩
    by_cases h0 : n = 0
    · subst h0
      have he : entP (pkAll (List.replicate 0 x)).2 x = (whP x, 0) := ent_0 rfl
      rw [he]
      refine ⟨⟨(x, 0), by simp, rfl⟩, ?_⟩
      have := putL_2 hx
      simp [whP, pkAll]
      omega
    · obtain ⟨⟨p, hp, hp0⟩, hlen⟩ := ih2 (by omega)
      refine ⟨⟨p, List.mem_append_left _ hp, hp0⟩, ?_⟩
      have hne : nearN (pkAll (List.replicate n x)).2 x ≠ 0 := nearA_has x _ (List.mem_reverse.2 hp) (by rw [ih1 p hp]) (by omega)
      obtain ⟨⟨b, d⟩, hb, _, _⟩ := nearN_ok hne
      have hbx : b = x := ih1 (b, d) (List.mem_of_getElem? hb)
      subst hbx
      have hs := (short_self hx).2 (by omega)
      rw [ent_1 rfl hne hb (by omega)]
      have h3 := putL_1 (n := nearN (pkAll (List.replicate n b)).2 b) (by have := nearN_le (pkAll (List.replicate n b)).2 b; rw [pk_len, List.length_replicate] at this; omega)
      have h4 := putL_1 (n := (makeR b b).length) (by omega)
      simp only [List.length_cons, List.length_append]
      omega
theorem pack_same {x : List UInt8} (h20 : 20 ≤ x.length) (hx : x.length ≤ 2000) {n : Nat} (h1 : 1 ≤ n) (hn : n ≤ 120) : (packL (List.replicate n x)).length ≤ 37 + (x.length + 4) * ((n + 8) / 9) + 12 * n := by
  have h2 := ((pk_same h20 hx n hn).2 h1).2
  have h3 := sha_32 (pkB (List.replicate n x))
  have h4 := putL_1 (n := n) (by omega)
  have h5 : 1 ≤ (n + 8) / 9 := by omega
  have h6 : (x.length + 4) * 1 ≤ (x.length + 4) * ((n + 8) / 9) := Nat.mul_le_mul_left _ h5
  simp only [packL, pkB, List.length_append, List.length_cons, List.length_nil, List.length_replicate] at h3 ⊢
  omega
end Go.Mx
