/- The walk's numbers and words of 32 bits. Walks of sha: the turn of a word, the schedule. Arrays and structs in memory: loads and stores of whole ones over the symbolic heap. Walk of sha.schedule. Walk of (*sha.Hasher).mix. The walk of bytes.Clone. A slice of slices of bytes: it reads as a list of lists of bytes. A value laid into a variable of its own (an argument whose address is taken). -/
import Derived.Test.YtloogjdafhjheaaGreatJ1Lib3
import Derived.IntWalk
import Derived.Laws.Rows
import Derived.Great.BuildSlice
namespace Go.Mx
open Go Go.RowKit

theorem w_lt (s : U32) : (s.toNat : Int) < 4294967296 := by have := s.isLt; omega
theorem w_ge (s : U32) : (0 : Int) ≤ (s.toNat : Int) := by omega
theorem w_wrap (z : Int) : IntKind.u32.wrap z = z % 4294967296 := rfl
theorem w_xor (s t : U32) : bits BinOp.xor IntKind.u32 (s.toNat : Int) (t.toNat : Int) = (((s ^^^ t) : U32).toNat : Int) := by
  have h1 := s.isLt
  have h2 := t.isLt
  rw [u32_xor_nat _ _ (by omega) (by omega), BitVec.toNat_xor]
theorem w_ofInt (s : U32) : (BitVec.ofInt 32 (s.toNat : Int)) = s := by
  apply BitVec.eq_of_toNat_eq
  rw [BitVec.ofInt_natCast, BitVec.toNat_ofNat]
  exact Nat.mod_eq_of_lt s.isLt
theorem w_wrapN (s : U32) : IntKind.u32.wrap (s.toNat : Int) = (s.toNat : Int) := by
  rw [w_wrap]; have := w_lt s; omega
theorem w_and (s t : U32) : bits BinOp.and IntKind.u32 (s.toNat : Int) (t.toNat : Int) = (((s &&& t) : U32).toNat : Int) := by
  show IntKind.u32.wrap ((BitVec.ofInt 32 (s.toNat : Int) &&& BitVec.ofInt 32 (t.toNat : Int)).toNat : Int) = _
  rw [w_ofInt, w_ofInt]; exact w_wrapN _
theorem w_or (s t : U32) : bits BinOp.or IntKind.u32 (s.toNat : Int) (t.toNat : Int) = (((s ||| t) : U32).toNat : Int) := by
  show IntKind.u32.wrap ((BitVec.ofInt 32 (s.toNat : Int) ||| BitVec.ofInt 32 (t.toNat : Int)).toNat : Int) = _
  rw [w_ofInt, w_ofInt]; exact w_wrapN _
theorem w_not (s : U32) : bits BinOp.xor IntKind.u32 IntKind.u32.max (s.toNat : Int) = ((~~~s : U32).toNat : Int) := by
  have e : IntKind.u32.max = ((0xFFFFFFFF#32 : U32).toNat : Int) := by decide
  rw [e, w_xor]
  congr 2
theorem w_add (s t : U32) : ((s.toNat : Int) + (t.toNat : Int)) % 4294967296 = (((s + t) : U32).toNat : Int) := by
  rw [BitVec.toNat_add]
  omega
theorem w_shr (s : U32) (k : Nat) : (s.toNat : Int) / (2 : Int) ^ k = (((s >>> k) : U32).toNat : Int) := by
  rw [BitVec.toNat_ushiftRight, Nat.shiftRight_eq_div_pow]
  push_cast
  rfl
theorem w_shl (s : U32) (k : Nat) : ((s.toNat : Int) * (2 : Int) ^ k) % 4294967296 = (((s <<< k) : U32).toNat : Int) := by
  rw [BitVec.toNat_shiftLeft, Nat.shiftLeft_eq, Int.natCast_emod, Int.natCast_mul, Int.natCast_pow]
  have h : ((2 ^ 32 : Nat) : Int) = 4294967296 := by decide
  rw [h]
  rfl
theorem w_shlW (s : U32) (k : Nat) (m : Int) (hm : m = (2 : Int) ^ k) : IntKind.u32.wrap ((s.toNat : Int) * m) = (((s <<< k) : U32).toNat : Int) := by
  subst hm; exact w_shl s k
theorem w_addW (s t : U32) : IntKind.u32.wrap ((s.toNat : Int) + (t.toNat : Int)) = (((s + t) : U32).toNat : Int) := w_add s t
/-- A word out of its bytes, as the walk spells it. -/
theorem w_word (x0 x1 x2 x3 : U32) : bits BinOp.or IntKind.u32 (bits BinOp.or IntKind.u32 (bits BinOp.or IntKind.u32 (IntKind.u32.wrap (IntKind.u32.wrap (x0.toNat : Int) * 16777216)) (IntKind.u32.wrap (IntKind.u32.wrap (x1.toNat : Int) * 65536))) (IntKind.u32.wrap (IntKind.u32.wrap (x2.toNat : Int) * 256))) (IntKind.u32.wrap (x3.toNat : Int)) =
    (((((x0 <<< 24) ||| (x1 <<< 16)) ||| (x2 <<< 8)) ||| x3 : U32).toNat : Int) := by
  rw [w_wrapN, w_wrapN, w_wrapN, w_wrapN, w_shlW x0 24 _ (by decide), w_shlW x1 16 _ (by decide), w_shlW x2 8 _ (by decide), w_or, w_or, w_or]
theorem w_sig0 (x : U32) : bits BinOp.xor IntKind.u32 (bits BinOp.xor IntKind.u32 ((rotr x 7).toNat : Int) ((rotr x 18).toNat : Int)) ((x.toNat : Int) / 8) = ((sig0 x).toNat : Int) := by
  have h := w_shr x 3
  rw [show (2 : Int) ^ 3 = 8 by decide] at h
  rw [h, w_xor, w_xor]; rfl
theorem w_sig1 (x : U32) : bits BinOp.xor IntKind.u32 (bits BinOp.xor IntKind.u32 ((rotr x 17).toNat : Int) ((rotr x 19).toNat : Int)) ((x.toNat : Int) / 1024) = ((sig1 x).toNat : Int) := by
  have h := w_shr x 10
  rw [show (2 : Int) ^ 10 = 1024 by decide] at h
  rw [h, w_xor, w_xor]; rfl
theorem w_sg1 (x : U32) : bits BinOp.xor IntKind.u32 (bits BinOp.xor IntKind.u32 ((rotr x 6).toNat : Int) ((rotr x 11).toNat : Int)) ((rotr x 25).toNat : Int) = ((sg1 x).toNat : Int) := by
  rw [w_xor, w_xor]; rfl
theorem w_sg0 (x : U32) : bits BinOp.xor IntKind.u32 (bits BinOp.xor IntKind.u32 ((rotr x 2).toNat : Int) ((rotr x 13).toNat : Int)) ((rotr x 22).toNat : Int) = ((sg0 x).toNat : Int) := by
  rw [w_xor, w_xor]; rfl
theorem w_byte (x : UInt8) : (x.toNat : Int) = ((by32 x).toNat : Int) := by
  unfold by32
  rw [BitVec.toNat_ofNat]
  have := x.toNat_lt
  congr 1
  omega
theorem w_low (s : U32) : (s.toNat : Int) % 256 = ((UInt8.ofNat s.toNat).toNat : Int) := by
  rw [UInt8.toNat_ofNat']
  omega
/-- The round's numbers, as the walk spells them. -/
theorem w_tm1 (e f gg h x kk ww : U32) : (((h.toNat : Int) + (x.toNat : Int) + bits BinOp.xor IntKind.u32 (bits BinOp.and IntKind.u32 (e.toNat : Int) (f.toNat : Int)) (bits BinOp.and IntKind.u32 (bits BinOp.xor IntKind.u32 (if IntKind.u32.signed = true then -1 else IntKind.u32.max) (e.toNat : Int)) (gg.toNat : Int)) + (kk.toNat : Int)) % 4294967296 + (ww.toNat : Int)) % 4294967296 =
    (((((h + x) + chf e f gg) + kk) + ww : U32).toNat : Int) := by
  have e1 : (if IntKind.u32.signed = true then -1 else IntKind.u32.max) = IntKind.u32.max := rfl
  rw [e1, w_not, w_and, w_and, w_xor]
  change (((h.toNat : Int) + (x.toNat : Int) + ((chf e f gg).toNat : Int) + (kk.toNat : Int)) % 4294967296 + (ww.toNat : Int)) % 4294967296 = _
  generalize chf e f gg = ch
  simp only [BitVec.toNat_add]
  omega
theorem w_maj (y a b c : U32) : ((y.toNat : Int) + bits BinOp.xor IntKind.u32 (bits BinOp.xor IntKind.u32 (bits BinOp.and IntKind.u32 (a.toNat : Int) (b.toNat : Int)) (bits BinOp.and IntKind.u32 (a.toNat : Int) (c.toNat : Int))) (bits BinOp.and IntKind.u32 (b.toNat : Int) (c.toNat : Int))) % 4294967296 = ((y + majf a b c : U32).toNat : Int) := by
  rw [w_and, w_and, w_and, w_xor, w_xor]
  exact w_add _ _
end Go.Mx

namespace Go.Proofs.YtloogjdafhjheaaGreat
open Go.RowKit Go.Mx

end Go.Proofs.YtloogjdafhjheaaGreat

namespace Go.Mx
open Go Go.RowKit

/-- A type of n cells that is loaded and stored whole. -/
structure Ag (P : Program) (t : TypeId) (n : Nat) : Prop where
  hd : ∃ d, P.underlying t = some d ∧ (match d with | .struct _ | .array _ _ => true | _ => false) = true
  hi : (P.info? t).map (·.size) = some n

theorem run_loadA {P : Program} {t : TypeId} {n : Nat} (A : Ag P t n) {w : World} {g j : Nat} {cs : List Value} (hn : cs.length = n) (hc : ∀ i u, cs[i]? = some u → w.cell? ⟨g, j + i, none⟩ = some u) :
    (loadVar t ⟨g, j, none⟩).run P w = .ok (.agg cs.toArray) w := by
  obtain ⟨d, hu, hd⟩ := A.hd
  have hl := run_loadCells_list (P := P) w ⟨g, j, none⟩ cs (fun i u h => by rw [Addr.add_lit]; exact hc i u h)
  have hi := A.hi
  cases hq : P.info? t with
  | none => rw [hq] at hi; cases hi
  | some i =>
    have hs : i.size = cs.length := by rw [hn]; simpa [hq] using hi
    have hagg : (isAgg t).run P w = .ok true w := by
      unfold isAgg
      rw [Sem.run_bind, run_underlying hu w]
      cases d <;> simp_all
    simp [loadVar, Sem.run_bind, hagg, sizeOf, typeInfo, hq, hs, hl]

theorem wpl_loadA {P : Program} {w : World} {ops : Array Oper} {rest : List Oper} {o : Oper} {a : Act} {Q : Exit → Act → World → Prop} (hgd : o.guard = none) (t : TypeId) (x : Operand) (ho : o.op = .load t x) {n : Nat} (A : Ag P t n) (g j : Nat)
    (hx : a.eval x = .pointer (some ⟨g, j, none⟩)) (cs : List Value) (hn : cs.length = n) (hc : ∀ i u, cs[i]? = some u → w.cell? ⟨g, j + i, none⟩ = some u)
    (h : wpList P ops Q rest (a.put o.dst (.agg cs.toArray)) w) : wpList P ops Q (o :: rest) a w :=
  wpl_val hgd (by unfold execOp; simp only [ho, hx, Instr.loadAt, Instr.sureAddr, Sem.run_bind, Sem.run_pure, Result.andThen_ok, run_loadA A hn hc]) h

theorem wpl_storeA {P : Program} {w0 w : World} {R : List Row} {Qs : List Rd} {ops : Array Oper} {rest : List Oper} {o : Oper} {a : Act} {Q : Exit → Act → World → Prop} (hgd : o.guard = none) (t : TypeId) (p x : Operand) (ho : o.op = .store t p x) {n : Nat} (A : Ag P t n)
    {g m cap : Nat} {e : TypeId} {size : Nat} {xs : List Value} (hst : St w0 w (⟨.slice (some ⟨g, 0, none⟩) m cap, e, size, m, xs⟩ :: R) Qs) (j : Nat) (hp : a.eval p = .pointer (some ⟨g, j, none⟩))
    (cs : List Value) (hx : a.eval x = .agg cs.toArray) (hn : cs.length = n) (hj : j + n ≤ xs.length) (h1 : ∀ u ∈ cs, u.oneCell' = true)
    (h : ∀ w', St w0 w' (⟨.slice (some ⟨g, 0, none⟩) m cap, e, size, m, xs.take j ++ cs ++ xs.drop (j + n)⟩ :: R) Qs → wpList P ops Q rest (a.put o.dst undef) w') : wpList P ops Q (o :: rest) a w := by
  subst hn
  refine wpl_store hgd t p x ho hst j hp (by rw [hx, A.hi]; simp [Value.cells]) (by rw [hx]; simpa [Value.cells] using hj) (by rw [hx]; simpa [Value.cells] using h1) fun w' hs => h w' ?_
  rw [hx] at hs
  simpa [Value.cells] using hs

/-- A result that lies in a variable of its own. -/
theorem results_cellA {P : Program} {fn : Func} {p : Tmp} {ty : TypeId} (h : fn.results = #[.cell p ty]) (tmps : Array Value) {n : Nat} (A : Ag P ty n) {w : World} {g : Nat} (cs : List Value) (hp : tmps.getD p undef = .pointer (some ⟨g, 0, none⟩)) (hn : cs.length = n)
    (hc : ∀ i u, cs[i]? = some u → w.cell? ⟨g, i, none⟩ = some u) : (results fn tmps).run P w = .ok (.agg cs.toArray) w := by
  have hp' : tmps[p]?.getD undef = .pointer (some ⟨g, 0, none⟩) := by simpa using hp
  simp [results, h, hp', asAddr, run_loadA A hn (g := g) (j := 0) (by simpa using hc)]

/-- A cell of any row. -/
theorem St.rcell {w0 w : World} {R : List Row} {Q : List Rd} {g n cap : Nat} {e : TypeId} {size : Nat} {xs : List Value} (h : St w0 w R Q) (hr : (⟨.slice (some ⟨g, 0, none⟩) n cap, e, size, n, xs⟩ : Row) ∈ R) {j : Nat} {u : Value} (hj : xs[j]? = some u) : w.cell? ⟨g, j, none⟩ = some u := by
  have := (h.own _ hr).cells (g := g) rfl j u hj
  rw [Addr.add_lit, Nat.zero_add] at this
  exact this

/-- What a piece of a row holds. -/
theorem St.rcells {w0 w : World} {R : List Row} {Q : List Rd} {g n cap : Nat} {e : TypeId} {size : Nat} {xs ys zs cs : List Value} (h : St w0 w R Q) (hr : (⟨.slice (some ⟨g, 0, none⟩) n cap, e, size, n, xs⟩ : Row) ∈ R) {j : Nat} (hx : xs = ys ++ cs ++ zs) (hj : ys.length = j) :
    ∀ i u, cs[i]? = some u → w.cell? ⟨g, j + i, none⟩ = some u := by
  intro i u hu
  refine h.rcell hr ?_
  subst hx hj
  have hi := (List.getElem?_eq_some_iff.1 hu).1
  rw [List.append_assoc, List.getElem?_append_right (by omega), List.getElem?_append_left (by omega), show ys.length + i - ys.length = i by omega]
  exact hu
end Go.Mx

namespace Go.Proofs.YtloogjdafhjheaaGreat
open Go.RowKit Go.Mx

theorem Tryz.a8 : Ag Tryz.prog 115 8 := ⟨⟨_, Tryz.underlying115, rfl⟩, by kernel_rfl⟩
theorem u32s_one (l : List U32) : ∀ u ∈ u32s l, u.oneCell' = true := by
  intro u hu
  obtain ⟨_, _, rfl⟩ := List.mem_map.1 hu
  rfl
/-- A word laid behind the first i. -/
theorem lay_word {l : List U32} {i n : Nat} (hl : l.length = i) (hi : i < n) (x : U32) :
    (u32s (l ++ List.replicate (n - i) 0)).take i ++ [Value.int .u32 (x.toNat : Int)] ++ (u32s (l ++ List.replicate (n - i) 0)).drop (i + 1) = u32s ((l ++ [x]) ++ List.replicate (n - (i + 1)) 0) := by
  subst hl
  obtain ⟨m, hm⟩ : ∃ m, n - l.length = m + 1 := ⟨n - l.length - 1, by omega⟩
  rw [hm, show n - (l.length + 1) = m by omega, u32s_app, u32s_app, List.take_append_of_le_length (by rw [u32s_len]; omega), List.take_of_length_le (by rw [u32s_len]; omega),
    List.drop_append, u32s_len, List.drop_eq_nil_of_le (by rw [u32s_len]; omega), List.replicate_succ, show l.length + 1 - l.length = 1 by omega]
  simp [u32s]

theorem word_cells {b : List UInt8} (hb : b.length = 64) {l : List U32} {i j : Nat} (hi : i < 16) (hj : j = 4 * i) {w : World} {p : Prop} {blk off : Nat} (HC : ∀ k (hk : k < b.length), p ∧ w.cell? ⟨blk, off + k, none⟩ = some (.int .u8 (b[k].toNat : Int))) :
    p ∧ ∃ x0 x1 x2 x3 : U32, w.cell? ⟨blk, off + j, none⟩ = some (.int .u8 (x0.toNat : Int)) ∧ w.cell? ⟨blk, off + (j + 1), none⟩ = some (.int .u8 (x1.toNat : Int)) ∧ w.cell? ⟨blk, off + (j + 2), none⟩ = some (.int .u8 (x2.toNat : Int)) ∧ w.cell? ⟨blk, off + (j + 3), none⟩ = some (.int .u8 (x3.toNat : Int)) ∧
      nextW b l i = (((x0 <<< 24) ||| (x1 <<< 16)) ||| (x2 <<< 8)) ||| x3 := by
  have h0 : j < b.length := by omega
  have h1 : j + 1 < b.length := by omega
  have h2 : j + 2 < b.length := by omega
  have h3 : j + 3 < b.length := by omega
  refine ⟨(HC j h0).1, by32 b[j], by32 b[j + 1], by32 b[j + 2], by32 b[j + 3], ?_, ?_, ?_, ?_, ?_⟩
  · rw [(HC j h0).2, w_byte]
  · rw [(HC _ h1).2, w_byte]
  · rw [(HC _ h2).2, w_byte]
  · rw [(HC _ h3).2, w_byte]
  · unfold nextW word
    rw [if_pos hi, ← hj]
    simp [h0, h1, h2, h3]

end Go.Proofs.YtloogjdafhjheaaGreat

namespace Go.Mx
open Go Go.RowKit
theorem S8.cells (s : S8) : u32s s.lst = [.int .u32 (s.a.toNat : Int), .int .u32 (s.b.toNat : Int), .int .u32 (s.c.toNat : Int), .int .u32 (s.d.toNat : Int), .int .u32 (s.e.toNat : Int), .int .u32 (s.f.toNat : Int), .int .u32 (s.g.toNat : Int), .int .u32 (s.h.toNat : Int)] := rfl
theorem whole {xs cs : List Value} {n : Nat} (h : xs.length = n) : xs.take 0 ++ cs ++ xs.drop (0 + n) = cs := by
  rw [List.take_zero, List.nil_append, List.drop_eq_nil_of_le (by omega), List.append_nil]
theorem rep_len (n : Nat) : (u32s (List.replicate n 0)).length = n := by rw [u32s_len, List.length_replicate]
/-- The first i words are added. -/
def mixL (s t : S8) (i : Nat) : List U32 := (s.add t).lst.take i ++ s.lst.drop i
theorem mixL_0 (s t : S8) : mixL s t 0 = s.lst := rfl
theorem mixL_8 (s t : S8) : mixL s t 8 = (s.add t).lst := rfl
theorem mixL_cell (s t : S8) (z : List Value) {i : Nat} (hi : i < 8) : (u32s (mixL s t i) ++ z)[i]? = some (.int .u32 ((s.lst.getD i 0).toNat : Int)) := by
  have h : i = 0 ∨ i = 1 ∨ i = 2 ∨ i = 3 ∨ i = 4 ∨ i = 5 ∨ i = 6 ∨ i = 7 := by omega
  rcases h with rfl | rfl | rfl | rfl | rfl | rfl | rfl | rfl <;> rfl
theorem mixL_set (s t : S8) (p : Value) (z : List Value) {i : Nat} (hi : i < 8) : (p :: (u32s (mixL s t i) ++ z)).take (1 + i) ++ [Value.int .u32 ((s.lst.getD i 0 + t.lst.getD i 0).toNat : Int)] ++ (p :: (u32s (mixL s t i) ++ z)).drop (1 + i + 1) = p :: (u32s (mixL s t (i + 1)) ++ z) := by
  have h : i = 0 ∨ i = 1 ∨ i = 2 ∨ i = 3 ∨ i = 4 ∨ i = 5 ∨ i = 6 ∨ i = 7 := by omega
  rcases h with rfl | rfl | rfl | rfl | rfl | rfl | rfl | rfl <;> rfl
theorem rnds_succ (ks ws : List U32) (s : S8) (n : Nat) : rnds ks ws s (n + 1) = rnd (rnds ks ws s n) (ks.getD n 0) (ws.getD n 0) := rfl
end Go.Mx
namespace Go.Proofs.YtloogjdafhjheaaGreat
open Go.RowKit Go.Mx

/-- The constants' variable: read alone. -/
abbrev cq (gc : Nat) : Rd := ⟨.slice (some ⟨gc, 0, none⟩) 1 1, 75, 1, [.int .u32 1, .int .i32 0, .int .u32 0] ++ u32s I8.lst ++ u32s K64⟩
abbrev row8 (g : Nat) (l : List Value) : Row := ⟨.slice (some ⟨g, 0, none⟩) 8 8, 115, 1, 8, l⟩

theorem cq_cell {w : World} {gc i : Nat} (h : Sl w 75 (.slice (some ⟨gc, 0, none⟩) 1 1) 1 (cq gc).xs) (hi : i < 64) : w.cell? ⟨gc, 11 + i, none⟩ = some (.int .u32 ((K64.getD i 0).toNat : Int)) := by
  obtain ⟨ao, cap, hv, _, _, _, _, hc⟩ := h
  simp only [Value.slice.injEq, true_and] at hv
  obtain ⟨rfl, rfl⟩ := hv
  obtain ⟨a, ha, hcell⟩ := hc (11 + i) (.int .u32 ((K64.getD i 0).toNat : Int)) (by
    rw [List.getElem?_append_right (by simp [u32s_len, S8.lst_len]), show 11 + i - ([Value.int .u32 1, .int .i32 0, .int .u32 0] ++ u32s I8.lst).length = i by simp [u32s_len, S8.lst_len], u32s_get (by simpa [K64] using hi)]
    rw [List.getD_eq_getElem?_getD, List.getElem?_eq_getElem (by simpa [K64] using hi)]
    rfl)
  obtain rfl := Option.some.inj ha
  rw [Addr.add_lit, Nat.zero_add] at hcell
  exact hcell

end Go.Proofs.YtloogjdafhjheaaGreat

namespace Go.Proofs.YtloogjdafhjheaaGreat
open Go.RowKit Go.Mx

theorem clone_any (v : Value) (l : List UInt8) (w : World) (hv : Sl w 1 v l.length (bs l)) (hl : l.length ≤ 140737488355328) :
    Calls Tryz.prog 80 #[v] w fun e w' => ∃ v', e = .returned v' ∧ St w w' [⟨v', 5, 1, l.length, bs l⟩] [] := by
  obtain ⟨ao, cap, rfl, h1, h2, h3, h4, h5⟩ := id hv
  cases ao with
  | none =>
    have hz : l = [] := List.eq_nil_of_length_eq_zero (by have := h4 rfl; omega)
    subst hz
    have q22 : ∀ (w : World) (n c : Nat), (binOp .eql 51 (.slice none n c) (.slice none 0 0)).run Tryz.prog w = .ok (.bool true) w := fun w n c => Lib.run_eql_slice_nil w _ _ none n c 0 0 Tryz.underlying51
    clear hv h5
    go_enter Tryz.func80, Tryz.ntmps80
    go_wp2_with fail
    go_ret
    exact ⟨_, rfl, St.nil w 5 1⟩
  | some a =>
    have q22 : ∀ (w : World) (n c : Nat), (binOp .eql 51 (.slice (some a) n c) (.slice none 0 0)).run Tryz.prog w = .ok (.bool false) w := fun w n c => Lib.run_eql_slice_nil w _ _ (some a) n c 0 0 Tryz.underlying51
    have hs := (St.refl w).made #[] 5 1 0 rfl (by simp)
    clear h5
    go_enter Tryz.func80, Tryz.ntmps80
    go_wp2_with (at_builtin; refine wpl_app rfl _ _ 51 rfl Tryz.elU8 hs rfl (by exact hs.old hv) (bs_one _) (by omega) ?_; intro v1 w1 hs1 _)
    go_ret
    exact ⟨_, rfl, hs1.cast (by simp) (by simp)⟩
end Go.Proofs.YtloogjdafhjheaaGreat

namespace Go.Mx
open Go Go.RowKit

/-- The slices vs, each for itself, as what is read. -/
def rds (vs : List Value) (ls : List (List UInt8)) : List Rd := List.zipWith (fun v l => ⟨v, 1, l.length, bs l⟩) vs ls
theorem rds_snoc (vs : List Value) (ls : List (List UInt8)) (v : Value) (l : List UInt8) (h : vs.length = ls.length) : rds (vs ++ [v]) (ls ++ [l]) = rds vs ls ++ [⟨v, 1, l.length, bs l⟩] := by
  unfold rds
  rw [List.zipWith_append h]
  rfl

/-- v reads as the list ls of lists of bytes. -/
def LL (w : World) (v : Value) (ls : List (List UInt8)) : Prop :=
  ∃ vs : List Value, vs.length = ls.length ∧ Sl w 1 v ls.length vs ∧ ∀ q ∈ rds vs ls, Sl w q.size q.v q.n q.xs

theorem LL.old {w0 w : World} {R : List Row} {Q : List Rd} {v : Value} {ls : List (List UInt8)} (h : St w0 w R Q) (hl : LL w0 v ls) : LL w v ls := by
  obtain ⟨vs, h1, h2, h3⟩ := hl
  exact ⟨vs, h1, h.old h2, fun q hq => h.old (h3 q hq)⟩
theorem LL.ofSt {w0 w : World} {v : Value} {e : TypeId} {vs : List Value} {ls : List (List UInt8)} (h : St w0 w [⟨v, e, 1, ls.length, vs⟩] (rds vs ls)) (hl : vs.length = ls.length) : LL w v ls :=
  ⟨vs, hl, h.sl0, fun q hq => h.rd q hq⟩
theorem LL.nil (w : World) : LL w (.slice none 0 0) [] := ⟨[], rfl, Sl.nil w 1, by simp [rds]⟩

theorem LL.at {w : World} {v : Value} {ls : List (List UInt8)} (h : LL w v ls) : ∃ ao cap blk off, ∃ us : Nat → Value, v = .slice ao ls.length cap ∧ ls.length ≤ cap ∧ cap ≤ 9223372036854775807 ∧
    (∀ k, k < ls.length → ao = some ⟨blk, off, none⟩ ∧ w.cell? ⟨blk, off + k, none⟩ = some (us k)) ∧ ∀ k (hk : k < ls.length), Sl w 1 (us k) ls[k].length (bs ls[k]) := by
  obtain ⟨vs, h1, h2, h3⟩ := h
  obtain ⟨ao, cap, rfl, g1, g2, g3, _, g4⟩ := h2.form
  unfold maxLen at g2
  have hq : ∀ k (hk : k < ls.length), Sl w 1 (vs.getD k (.bool false)) ls[k].length (bs ls[k]) := fun k hk => by
    have : (⟨vs[k]'(by omega), 1, ls[k].length, bs ls[k]⟩ : Rd) ∈ rds vs ls := by
      unfold rds
      rw [List.mem_iff_getElem]
      exact ⟨k, by simp; omega, by simp⟩
    have := h3 _ this
    simpa [List.getD_eq_getElem?_getD, List.getElem?_eq_getElem (show k < vs.length by omega)] using this
  by_cases hnil : ls = []
  · subst hnil; exact ⟨ao, cap, 0, 0, _, rfl, g1, by omega, fun k hk => by simp at hk, hq⟩
  · have hne : vs ≠ [] := by rintro rfl; simp at h1; exact hnil (List.eq_nil_of_length_eq_zero h1.symm)
    obtain ⟨b, off, rfl, hc⟩ := g4 hne
    exact ⟨_, cap, b, off, _, rfl, g1, by omega, fun k hk => ⟨rfl, hc k _ (by simp [List.getD_eq_getElem?_getD, List.getElem?_eq_getElem (show k < vs.length by omega)])⟩, hq⟩

theorem Sl.cutB {w : World} {v : Value} {b : List UInt8} {l r : Nat} (h : Sl w 1 v (r - l) (((bs b).take (r * 1)).drop (l * 1))) (hr : r ≤ b.length) (hl : l ≤ r) : Sl w 1 v ((b.take r).drop l).length (bs ((b.take r).drop l)) := by
  rw [bs_cut] at h
  rwa [show ((b.take r).drop l).length = r - l by rw [List.length_drop, List.length_take]; omega]
theorem Sl.cutS {w : World} {v : Value} {b : List ByteArray} {l r : Nat} (h : Sl w 1 v (r - l) (((ss b).take (r * 1)).drop (l * 1))) (hr : r ≤ b.length) (hl : l ≤ r) : Sl w 1 v ((b.take r).drop l).length (ss ((b.take r).drop l)) := by
  rw [ss_cut] at h
  rwa [show ((b.take r).drop l).length = r - l by rw [List.length_drop, List.length_take]; omega]

/-- One list more. -/
theorem St.pushL {w0 w : World} {v c : Value} {e : TypeId} {vs : List Value} {ls : List (List UInt8)} {l : List UInt8} (h : St w0 w [⟨v, e, 1, ls.length + 1, vs ++ [c]⟩] (⟨c, 1, l.length, bs l⟩ :: rds vs ls)) (hl : vs.length = ls.length) :
    St w0 w [⟨v, e, 1, (ls ++ [l]).length, vs ++ [c]⟩] (rds (vs ++ [c]) (ls ++ [l])) ∧ (vs ++ [c]).length = (ls ++ [l]).length := by
  refine ⟨(h.cast (by simp) rfl).sub (List.Sublist.refl _) fun q hq => ?_, by simp [hl]⟩
  rw [rds_snoc _ _ _ _ hl] at hq
  rcases List.mem_append.1 hq with hq | hq
  · exact List.mem_cons_of_mem _ hq
  · simp at hq; subst hq; exact List.mem_cons_self ..
end Go.Mx

namespace Go.Mx
open Go Go.RowKit
theorem wpl_box {P : Program} {w0 w : World} {R : List Row} {Qs : List Rd} {ops : Array Oper} {rest : List Oper} {o : Oper} {a : Act} {Q : Exit → Act → World → Prop} (hgd : o.guard = none) (t : TypeId) (x : Operand) (ho : o.op = .box t x)
    (hst : St w0 w R Qs) (cs : List Value) (hx : (a.eval x).cells = cs.toArray)
    (h : ∀ g w', St w0 w' (⟨.slice (some ⟨g, 0, none⟩) 1 1, t, cs.length, 1, cs⟩ :: R) Qs → wpList P ops Q rest (a.put o.dst (.pointer (some ⟨g, 0, none⟩))) w') : wpList P ops Q (o :: rest) a w := by
  refine wpList_plain hgd fun K hK => ?_
  have hs := hst.madeAt cs.toArray t cs.length 1 w.heap.size (by simp) (by simp [maxLen]) rfl
  unfold Oper.wp execOp
  simp only [ho, Instr.box, newVar, newRow, hx, Sem.run_bind, Sem.run_pure]
  exact hK _ _ (h _ _ (by simpa using hs))
theorem St.bq {w0 w : World} {R : List Row} {Q : List Rd} (h : St w0 w R Q) (x : Value) (e : TypeId) : St w0 (w.alloc (.cells #[x] e)) R (⟨.slice (some ⟨w.heap.size, 0, none⟩) 1 1, 1, 1, [x]⟩ :: Q) :=
  (h.madeAt #[x] e 1 1 w.heap.size rfl (by simp [maxLen]) rfl).freeze

/-- A literal of one element of one cell. -/
theorem wpl_lit1 {P : Program} {w0 w : World} {R : List Row} {Qs : List Rd} {ops : Array Oper} {rest : List Oper} {o : Oper} {a : Act} {Q : Exit → Act → World → Prop} (hgd : o.guard = none) (t : TypeId) (x : Operand) (ho : o.op = .buildSlice t 1 #[(0, x)])
    {e : TypeId} {bytes : Nat} (E : El P t e 1 bytes) (hst : St w0 w R Qs) (u : Value) (hx : a.eval x = u) (h1 : u.cells = #[u])
    (h : ∀ g w', St w0 w' (⟨.slice (some ⟨g, 0, none⟩) 1 1, e, 1, 1, [u]⟩ :: R) Qs → wpList P ops Q rest (a.put o.dst (.slice (some ⟨g, 0, none⟩) 1 1)) w') : wpList P ops Q (o :: rest) a w := by
  obtain ⟨i, z, h2, h3, h4, h5, h6⟩ := E.hi
  refine wpList_buildSlice hgd t e 1 #[(0, x)] ho #[u] i z E.ht h2 h3 (by rw [h4]; decide) (by rw [h4]; decide) ?_ (h _ _ ?_)
  · simp [h4, hx, h1, Instr.fill]
    rw [show Array.range 1 = #[0] from rfl]
    simp
  · exact hst.made #[u] e 1 1 rfl (by simp [maxLen])
end Go.Mx
