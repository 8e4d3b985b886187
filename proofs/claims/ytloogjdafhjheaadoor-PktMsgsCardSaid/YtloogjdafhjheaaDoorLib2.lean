/- Laws of the walk over the symbolic heap: conversions, lengths, single values. -/
import Derived.Test.YtloogjdafhjheaaDoorLib
import Derived.Laws.IdiomStrings
import Derived.Lib.SlBytesConst
namespace Go.Mx
open Go Go.RowKit

theorem hid {p : Prop} (h : p) : Hid p := h

/-- The string of a list of bytes. -/
def str (l : List UInt8) : ByteArray := ⟨l.toArray⟩
theorem str_data (l : List UInt8) : (str l).data.toList = l := by simp [str]
theorem str_size (l : List UInt8) : (str l).size = l.length := by simp [str, ByteArray.size]
theorem str_toList (s : ByteArray) : str s.data.toList = s := by simp [str]
theorem str_inj {l m : List UInt8} : str l = str m ↔ l = m := by
  constructor
  · intro h
    have := congrArg (fun s : ByteArray => s.data.toList) h
    simpa [str] using this
  · rintro rfl; rfl

theorem str_toL (l : List UInt8) : (str l).toList = l := by rw [ByteArray.toList_eq, str_data]
theorem str_beq (l m : List UInt8) : ((str l).toList == (str m).toList) = decide (l = m) := by rw [str_toL, str_toL]; exact Bool.eq_iff_iff.2 (by simp)

theorem u8_bne {x y : UInt8} (h : x = y) : ((x.toNat : Int) != (y.toNat : Int)) = false := by simp [h]
theorem u8_bne' {x y : UInt8} (h : x ≠ y) : ((x.toNat : Int) != (y.toNat : Int)) = true := by
  simp only [bne_iff_ne, ne_eq, Int.natCast_inj]
  exact fun h' => h (UInt8.toNat_inj.1 h')
theorem u8_lt (x : UInt8) : (x.toNat : Int) < 256 := by have := x.toNat_lt; omega

theorem take_succ_eq {α : Type} {l m : List α} {k : Nat} (h : l.take k = m.take k) (hl : k < l.length) (hm : k < m.length) (he : l[k] = m[k]) : l.take (k + 1) = m.take (k + 1) := by
  rw [List.take_succ_eq_append_getElem hl, List.take_succ_eq_append_getElem hm, h, he]

theorem ofInt_64 (a : Nat) (ha : a < 18446744073709551616) : (BitVec.ofInt 64 (a : Int)).toNat = a := by
  rw [BitVec.ofInt_natCast, BitVec.toNat_ofNat]; exact Nat.mod_eq_of_lt (by omega)
theorem i64_or (a b : Nat) (ha : a < 9223372036854775808) (hb : b < 9223372036854775808) : bits BinOp.or IntKind.i64 (a : Int) (b : Int) = ((a ||| b : Nat) : Int) := by
  have h3 : a ||| b < 2 ^ 63 := Nat.or_lt_two_pow (by omega) (by omega)
  show IntKind.i64.wrap ((BitVec.ofInt 64 (a : Int) ||| BitVec.ofInt 64 (b : Int)).toNat : Int) = _
  rw [BitVec.toNat_or, ofInt_64 a (by omega), ofInt_64 b (by omega), IntKind.wrap_i64]
  omega
theorem i64_and (a b : Nat) (ha : a < 9223372036854775808) (hb : b < 9223372036854775808) : bits BinOp.and IntKind.i64 (a : Int) (b : Int) = ((a &&& b : Nat) : Int) := by
  have h3 : a &&& b < 2 ^ 63 := Nat.and_lt_two_pow _ (by omega)
  show IntKind.i64.wrap ((BitVec.ofInt 64 (a : Int) &&& BitVec.ofInt 64 (b : Int)).toNat : Int) = _
  rw [BitVec.toNat_and, ofInt_64 a (by omega), ofInt_64 b (by omega), IntKind.wrap_i64]
  omega

/-- n | y<<(7i), n below 128^i. -/
theorem or_step (n i : Nat) (y : UInt8) (hn : n < 128 ^ i) (hi : i ≤ 8) :
    bits BinOp.or IntKind.i64 (n : Int) (wrap64 (wrap64 (bits BinOp.and IntKind.u8 (y.toNat : Int) 127) * 2 ^ (7 * i))) = ((n + 128 ^ i * (y.toNat % 128) : Nat) : Int) := by
  have hy := y.toNat_lt
  have e0 : bits BinOp.and IntKind.u8 (y.toNat : Int) 127 = ((y.toNat % 128 : Nat) : Int) := by
    rw [u8_and _ 127 (by omega) (by omega) (by omega) (by omega), Int.toNat_natCast, show Int.toNat 127 = 127 from rfl, nat_mask7]
  have e1 : wrap64 ((y.toNat % 128 : Nat) : Int) = ((y.toNat % 128 : Nat) : Int) := IntWalk.wrap64_in _ (by omega)
  have e2 : (2 : Int) ^ (7 * i) = ((128 ^ i : Nat) : Int) := by rw [Int.pow_mul]; simp
  have hp : 128 ^ i ≤ 128 ^ 8 := Nat.pow_le_pow_right (by omega) hi
  have hp8 : (128 : Nat) ^ 8 = 72057594037927936 := by decide
  have hm : y.toNat % 128 * 128 ^ i ≤ 127 * 72057594037927936 := Nat.mul_le_mul (by omega) (by omega)
  have e3 : wrap64 (((y.toNat % 128 : Nat) : Int) * ((128 ^ i : Nat) : Int)) = ((y.toNat % 128 * 128 ^ i : Nat) : Int) := by
    rw [← Int.natCast_mul]
    exact IntWalk.wrap64_in _ (by omega)
  rw [e0, e1, e2, e3, i64_or _ _ (by omega) (by omega), Nat.or_comm, nat_join (7 * i) _ _ (by rw [show 2 ^ (7 * i) = 128 ^ i from by rw [Nat.pow_mul]]; exact Nat.mul_mod_left _ _) (by rw [show 2 ^ (7 * i) = 128 ^ i from by rw [Nat.pow_mul]]; exact hn)]
  rw [Nat.mul_comm (128 ^ i), Nat.add_comm]

theorem Sl.len {w : World} {size : Nat} {v : Value} {n : Nat} {xs : List Value} (h : Sl w size v n xs) : xs.length = n * size := by
  obtain ⟨_, _, _, _, _, h, _⟩ := h; exact h

theorem loadCells_sl {P : Program} {w : World} {v : Value} {n : Nat} {xs : List Value} (h : Sl w 1 v n xs) : ∃ ao cap, v = .slice ao n cap ∧ ((ao = none ∧ xs = []) ∨ ∃ a, ao = some a ∧ (loadCells a n).run P w = .ok xs.toArray w) := by
  obtain ⟨ao, cap, rfl, h1, h2, h3, h0, h4⟩ := h
  refine ⟨ao, cap, rfl, ?_⟩
  cases ao with
  | none => exact .inl ⟨rfl, List.eq_nil_of_length_eq_zero (by have := h0 rfl; omega)⟩
  | some a =>
    refine .inr ⟨a, rfl, ?_⟩
    have := run_loadCells_list (P := P) w a xs (fun j u hu => by obtain ⟨a', ha, hc⟩ := h4 j u hu; obtain rfl := Option.some.inj ha; exact hc)
    rw [h3, Nat.mul_one] at this
    exact this

theorem foldl_push (l : List UInt8) : ∀ s : ByteArray, ((l.map fun x => (x.toNat : Int)).foldl (fun r n => r.push (UInt8.ofNat n.toNat)) s) = ⟨(s.data.toList ++ l).toArray⟩ := by
  induction l with
  | nil => intro s; simp
  | cons x l ih =>
    intro s
    rw [List.map_cons, List.foldl_cons, ih]
    simp [ByteArray.push]

theorem run_b2s {P : Program} {w : World} (src dst e : TypeId) {v : Value} {n : Nat} {l : List UInt8} (h : Sl w 1 v n (bs l)) (hs : P.underlying src = some (.slice e)) (he : P.underlying e = some (.int .u8)) (hd : P.underlying dst = some .string) :
    (convert src dst v).run P w = .ok (.string (str l)) w := by
  obtain ⟨ao, cap, rfl, hh⟩ := loadCells_sl (P := P) h
  rw [run_convert_bytes_string w src dst e ao n cap hs he hd]
  rcases hh with ⟨rfl, hx⟩ | ⟨a, rfl, hrun⟩
  · have : l = [] := by simpa [bs] using hx
    subst this
    rfl
  · have e1 : bs l = (l.map fun x => (x.toNat : Int)).map (Value.int .u8) := by simp [bs]
    rw [run_bytesToString w a n cap (l.map fun x => (x.toNat : Int)) (by rw [hrun, e1]), foldl_push]
    simp [str]

theorem wpl_val {P : Program} {w : World} {ops : Array Oper} {rest : List Oper} {o : Oper} {a : Act} {Q : Exit → Act → World → Prop} (hgd : o.guard = none) {v : Value}
    (h : (execOp a.eval o).run P w = .ok (.value v) w) (hk : wpList P ops Q rest (a.put o.dst v) w) : wpList P ops Q (o :: rest) a w := by
  refine wpList_plain hgd fun K hK => ?_
  unfold Oper.wp
  rw [h]
  exact hK _ _ hk

/-- string(b). -/
theorem wpl_b2s {P : Program} {w : World} {ops : Array Oper} {rest : List Oper} {o : Oper} {a : Act} {Q : Exit → Act → World → Prop} (hgd : o.guard = none) (src dst e : TypeId) (x : Operand) (ho : o.op = .convert src dst x)
    (hs : P.underlying src = some (.slice e)) (he : P.underlying e = some (.int .u8)) (hd : P.underlying dst = some .string)
    {n : Nat} {l : List UInt8} (h : Sl w 1 (a.eval x) n (bs l)) (hk : wpList P ops Q rest (a.put o.dst (.string (str l))) w) : wpList P ops Q (o :: rest) a w :=
  wpl_val hgd (by unfold execOp; simp only [ho, Sem.run_bind, run_b2s src dst e h hs he hd, Result.andThen_ok, Sem.run_pure]) hk

/-- len(x), x a slice of which it is known how it reads. -/
theorem wpl_len {P : Program} {w : World} {ops : Array Oper} {rest : List Oper} {o : Oper} {a : Act} {Q : Exit → Act → World → Prop} (hgd : o.guard = none) (t e : TypeId) (x : Operand) (ho : o.op = .call { callee := .builtin .len, args := #[x], argTypes := #[t] })
    (ht : P.underlying t = some (.slice e)) {size n : Nat} {xs : List Value} (h : Sl w size (a.eval x) n xs) (hk : wpList P ops Q rest (a.put o.dst (.int .i64 (n : Int))) w) : wpList P ops Q (o :: rest) a w := by
  refine wpl_val hgd ?_ hk
  obtain ⟨ao, cap, hv, _⟩ := h
  unfold execOp
  simp only [ho, resolve, invoke, builtin, Sem.run_bind, Sem.run_pure, Result.andThen_ok, List.map_toArray, List.map_cons, List.map_nil, hv]
  simp [Builtin.len_, run_underlying ht, goInt]

/-- A row of bytes that a conversion made. -/
theorem St.ofStr {P : Program} {w0 w : World} {R : List Row} {Q : List Rd} (h : St w0 w R Q) (src dst e : TypeId) (s : ByteArray) (hs : P.underlying src = some .string) (hd : P.underlying dst = some (.slice e)) (he : P.underlying e = some (.int .u8)) (hm : s.size ≤ maxLen) :
    ∃ v' w', (convert src dst (.string s)).run P w = .ok v' w' ∧ St w0 w' (⟨v', e, 1, s.size, bs s.data.toList⟩ :: R) Q := by
  refine ⟨_, _, run_bytes_of_string w src dst e s hs hd he, h.call1 ⟨((Below.refl _ _).drew).alloc (Nat.le_refl _) _, fun r hr => ?_, by simp, by simp, by simp⟩⟩
  obtain rfl := List.mem_singleton.1 hr
  have hge : s.size ≤ grownCap w s.size 0 e := grownCap_ge w s.size 0 e
  have hbl : (bs s.data.toList).length = s.size := by rw [bs_len, Array.length_toList]; rfl
  have hsz : (bytesRow s (grownCap w s.size 0 e)).size = grownCap w s.size 0 e := by
    have h1 : s.size = s.data.size := rfl
    simp [bytesRow]
    omega
  refine ⟨by rw [hbl, Nat.mul_one], .inr ⟨w.heap.size, grownCap w s.size 0 e, bytesRow s (grownCap w s.size 0 e), _, rfl, Nat.le_refl _, heap_alloc_new w.drew _, fun i hi => by simp only []; omega, hge, grownCap_le_maxLen w s.size 0 e hm, by rw [hsz, Nat.mul_one], ?_⟩⟩
  have h2 : (bytesRow s (grownCap w s.size 0 e)).toList = bs s.data.toList ++ List.replicate (grownCap w s.size 0 e - s.size) (.int .u8 0) := by
    simp [bytesRow, bs]
  rw [h2, Nat.mul_one, ← hbl]
  exact List.take_left

theorem wpl_s2b {P : Program} {w0 w : World} {R : List Row} {Qs : List Rd} {ops : Array Oper} {rest : List Oper} {o : Oper} {a : Act} {Q : Exit → Act → World → Prop} (hgd : o.guard = none) (src dst e : TypeId) (x : Operand) (ho : o.op = .convert src dst x)
    (hs : P.underlying src = some .string) (hd : P.underlying dst = some (.slice e)) (he : P.underlying e = some (.int .u8)) (hst : St w0 w R Qs) {s : ByteArray} (hx : a.eval x = .string s) (hm : s.size ≤ maxLen)
    (h : ∀ v' w', St w0 w' (⟨v', e, 1, s.size, bs s.data.toList⟩ :: R) Qs → wpList P ops Q rest (a.put o.dst v') w') : wpList P ops Q (o :: rest) a w := by
  refine wpList_plain hgd fun K hK => ?_
  obtain ⟨v', w', hr, h2⟩ := hst.ofStr src dst e s hs hd he hm
  unfold Oper.wp execOp
  simp only [ho, hx, Sem.run_bind, hr, Result.andThen_ok, Sem.run_pure]
  exact hK _ _ (h v' w' h2)

/-- A cell that was there at the start. -/
theorem St.keep {w0 w : World} {R : List Row} {Q : List Rd} (h : St w0 w R Q) {a : Addr} {v : Value} (hc : w0.cell? a = some v) : w.cell? a = some v :=
  (h.below.cell (World.block_lt_of_cell? w0 a hc)).trans hc
/-- A cell of the head row. -/
theorem St.cell {w0 w : World} {R : List Row} {Q : List Rd} {g n cap : Nat} {e : TypeId} {size : Nat} {xs : List Value} (h : St w0 w (⟨.slice (some ⟨g, 0, none⟩) n cap, e, size, n, xs⟩ :: R) Q) {j : Nat} {u : Value} (hj : xs[j]? = some u) : w.cell? ⟨g, j, none⟩ = some u := by
  have := (h.own _ (List.mem_cons_self ..)).cells (g := g) rfl j u hj
  rw [Addr.add_lit, Nat.zero_add] at this
  exact this

/-- The head row's value, where it has an element. -/
theorem St.form0 {w0 w : World} {R : List Row} {Q : List Rd} {v : Value} {n : Nat} {e : TypeId} {size : Nat} {xs : List Value} (h : St w0 w (⟨v, e, size, n, xs⟩ :: R) Q) (hn : n ≠ 0) :
    ∃ g cap, v = .slice (some ⟨g, 0, none⟩) n cap ∧ w0.heap.size ≤ g ∧ g < w.heap.size ∧ n ≤ cap ∧ cap ≤ 9223372036854775807 := by
  have ho := h.own _ (List.mem_cons_self ..)
  rcases ho.2 with ⟨_, h2⟩ | ⟨g, cap, cur, fr, hv, hb, hg, _, h3, h4, _⟩
  · exact absurd h2 hn
  · simp only [] at hv hb hg h3 h4
    unfold maxLen at h4
    exact ⟨g, cap, hv, hb, (Array.getElem?_eq_some_iff.1 hg).1, h3, by omega⟩

/-- A store of cells into the head row. -/
theorem St.store {P : Program} {w0 w : World} {R : List Row} {Q : List Rd} {g n cap : Nat} {e : TypeId} {size : Nat} {xs : List Value} (h : St w0 w (⟨.slice (some ⟨g, 0, none⟩) n cap, e, size, n, xs⟩ :: R) Q) (j : Nat) (cs : List Value) (hj : j + cs.length ≤ xs.length) (h1 : ∀ u ∈ cs, u.oneCell' = true) :
    ∃ w', (storeCells ⟨g, j, none⟩ cs).run P w = .ok () w' ∧ St w0 w' (⟨.slice (some ⟨g, 0, none⟩) n cap, e, size, n, xs.take j ++ cs ++ xs.drop (j + cs.length)⟩ :: R) Q := by
  have ho := h.own _ (List.mem_cons_self ..)
  rcases ho.2 with ⟨h2, _⟩ | ⟨g', cap', cur, fr, hv, hb, hg, hfr, hn, hm, hs, htake⟩
  · cases h2
  · obtain ⟨rfl, rfl⟩ : g = g' ∧ cap = cap' := by simp at hv; exact hv
    have hlen := ho.1
    simp only [] at hlen htake hs hg hn hb
    have hxl : xs.length ≤ cur.size := by rw [hlen, hs]; exact Nat.mul_le_mul_right _ hn
    refine ⟨_, run_storeCells_fr P g j e fr cs 0 cur w hg hfr (by simp only [Nat.add_zero]; omega) h1, h.turn (r' := ⟨.slice (some ⟨g, 0, none⟩) n cap, e, size, n, xs.take j ++ cs ++ xs.drop (j + cs.length)⟩) ⟨?_, .inr ⟨g, cap, _, fr, rfl, hb, setRow_heap w g cur _ e _ hg, ?_, hn, hm, ?_, ?_⟩⟩ ⟨rfl, rfl, rfl, by simp, fun k _ hk => setRow_other w g k _ (fun e => hk (by simp [Value.ownBlock, e]))⟩ fun b hb => .inl hb⟩
    · simp only [List.length_append, List.length_take, List.length_drop]; omega
    · intro k hk
      refine hfr k ?_
      simp only [List.size_toArray, List.length_append, List.length_take, List.length_drop, Array.length_toList, Nat.add_zero] at hk
      omega
    · simp only [List.size_toArray, List.length_append, List.length_take, List.length_drop, Array.length_toList, Nat.add_zero]
      omega
    · simp only [Nat.add_zero]
      rw [← hlen, ← htake]
      rw [← hlen] at htake ⊢
      apply List.ext_getElem?
      intro i
      simp only [List.getElem?_take, List.getElem?_append, List.length_append, List.length_take, List.getElem?_drop, Array.length_toList]
      have e1 : min j cur.size = j := by omega
      have e2 : min j (min xs.length cur.size) = j := by omega
      simp only [e1, e2]
      split <;> split <;> (try split) <;> (try split) <;> (try split) <;> first | rfl | omega | (congr 1; omega) | skip
      all_goals (first | (simp; omega) | omega)

theorem wpl_store {P : Program} {w0 w : World} {R : List Row} {Qs : List Rd} {ops : Array Oper} {rest : List Oper} {o : Oper} {a : Act} {Q : Exit → Act → World → Prop} (hgd : o.guard = none) (t : TypeId) (p x : Operand) (ho : o.op = .store t p x)
    {g n cap : Nat} {e : TypeId} {size : Nat} {xs : List Value} (hst : St w0 w (⟨.slice (some ⟨g, 0, none⟩) n cap, e, size, n, xs⟩ :: R) Qs) (j : Nat) (hp : a.eval p = .pointer (some ⟨g, j, none⟩))
    (hsz : (P.info? t).map (·.size) = some (a.eval x).cells.size) (hj : j + (a.eval x).cells.size ≤ xs.length) (h1 : ∀ u ∈ (a.eval x).cells.toList, u.oneCell' = true)
    (h : ∀ w', St w0 w' (⟨.slice (some ⟨g, 0, none⟩) n cap, e, size, n, xs.take j ++ (a.eval x).cells.toList ++ xs.drop (j + (a.eval x).cells.size)⟩ :: R) Qs → wpList P ops Q rest (a.put o.dst undef) w') : wpList P ops Q (o :: rest) a w := by
  refine wpList_plain hgd fun K hK => ?_
  obtain ⟨w', hr, h2⟩ := hst.store (P := P) j (a.eval x).cells.toList (by simpa using hj) h1
  obtain ⟨i, hi, hiz⟩ := Option.map_eq_some_iff.1 hsz
  unfold Oper.wp execOp
  simp only [ho, hp]
  simp only [Instr.storeAt, Instr.sureAddr, storeVar, sizeOf, typeInfo, Sem.run_bind, Sem.run_pure, Result.andThen_ok]
  simp [hiz, hr, hi]
  exact hK _ _ (h w' (by simpa using h2))

/-- The same of one cell. -/
theorem wpl_store1 {P : Program} {w0 w : World} {R : List Row} {Qs : List Rd} {ops : Array Oper} {rest : List Oper} {o : Oper} {a : Act} {Q : Exit → Act → World → Prop} (hgd : o.guard = none) (t : TypeId) (p x : Operand) (ho : o.op = .store t p x)
    {g n cap : Nat} {e : TypeId} {size : Nat} {xs : List Value} (hst : St w0 w (⟨.slice (some ⟨g, 0, none⟩) n cap, e, size, n, xs⟩ :: R) Qs) (j : Nat) (hp : a.eval p = .pointer (some ⟨g, j, none⟩))
    (u : Value) (hx : a.eval x = u) (hc : u.cells = #[u]) (hsz : (P.info? t).map (·.size) = some 1) (hj : j < xs.length) (h1 : u.oneCell' = true)
    (h : ∀ w', St w0 w' (⟨.slice (some ⟨g, 0, none⟩) n cap, e, size, n, xs.take j ++ [u] ++ xs.drop (j + 1)⟩ :: R) Qs → wpList P ops Q rest (a.put o.dst undef) w') : wpList P ops Q (o :: rest) a w :=
  wpl_store hgd t p x ho hst j hp (by rw [hx, hc]; exact hsz) (by rw [hx, hc]; exact hj) (by rw [hx, hc]; intro v hv; simp at hv; subst hv; exact h1) (by rw [hx, hc]; exact h)

/-- A slice made by a literal whose row bears the mark of a converted string. -/
theorem St.madeM {w0 w : World} {R : List Row} {Q : List Rd} (h : St w0 w R Q) (cells : Array Value) (e : TypeId) (size n : Nat) (hn : cells.size = n * size) (hm : n ≤ maxLen) :
    St w0 (w.alloc (.cells cells e (cells.size, cells.size + 1))) (⟨.slice (some ⟨w.heap.size, 0, none⟩) n n, e, size, n, cells.toList⟩ :: R) Q := by
  refine h.call1 ⟨(Below.refl _ _).alloc (Nat.le_refl _) _, fun r hr => ?_, by simp, by simp, by simp⟩
  obtain rfl := List.mem_singleton.1 hr
  refine ⟨by simpa using hn, .inr ⟨w.heap.size, n, cells, _, rfl, Nat.le_refl _, heap_alloc_new w _, fun i hi => by simp only []; omega, Nat.le_refl _, hm, hn, ?_⟩⟩
  rw [List.take_of_length_le (by simp [hn])]

/-- How long a slice value is: for a loop's measure. -/
def lenV : Value → Nat | .slice _ n _ => n | _ => 0
theorem Sl.lenV {w : World} {size : Nat} {v : Value} {n : Nat} {xs : List Value} (h : Sl w size v n xs) : lenV v = n := by
  obtain ⟨_, _, rfl, _⟩ := h; rfl

/-- A slice cut out of one that reads as cells: it reads as the cut. -/
theorem Sl.cut {w : World} {size : Nat} {ao : Option Addr} {n cap : Nat} {xs : List Value} (h : Sl w size (.slice ao n cap) n xs) {l r : Nat} (hlr : l ≤ r) (hr : r ≤ n) :
    Sl w size (.slice (if cap = l then ao else ao.map (·.add (l * size))) (r - l) (cap - l)) (r - l) ((xs.take (r * size)).drop (l * size)) := by
  obtain ⟨ao', cap', hv, h1, h2, h3, h0, h4⟩ := h
  obtain ⟨rfl, rfl⟩ : ao = ao' ∧ cap = cap' := by simp at hv; exact hv
  have hle : r * size ≤ xs.length := by rw [h3]; exact Nat.mul_le_mul_right _ hr
  refine ⟨_, _, rfl, by omega, by omega, ?_, fun hn => ?_, fun j u hu => ?_⟩
  · rw [List.length_drop, List.length_take, Nat.min_eq_left hle, Nat.sub_mul]
  · split at hn
    · have := h0 hn; omega
    · cases ao with
      | none => have := h0 rfl; omega
      | some a => simp at hn
  · have hj : j < ((xs.take (r * size)).drop (l * size)).length := (List.getElem?_eq_some_iff.1 hu).1
    rw [List.length_drop, List.length_take, Nat.min_eq_left hle] at hj
    have hu' : xs[l * size + j]? = some u := by
      rw [List.getElem?_drop, List.getElem?_take] at hu
      rw [if_pos (by omega)] at hu
      exact hu
    obtain ⟨a, rfl, hc⟩ := h4 _ u hu'
    have hcl : ¬ cap = l := by
      intro he
      have : r = l := by omega
      subst this
      omega
    rw [if_neg hcl]
    refine ⟨_, rfl, ?_⟩
    have hspot := World.cell?_spot hc
    have e : (a.add (l * size)).add j = a.add (l * size + j) := by
      unfold Addr.add at *
      by_cases hz : l * size = 0
      · simp [hz]
      · by_cases hj0 : j = 0
        · simp [hj0]
        · rw [if_neg hz, if_neg hj0, if_neg (by omega)]
          simp only [Nat.add_assoc]
    rw [e]
    exact hc

theorem run_slice_sl {P : Program} {w : World} {t e : TypeId} {size bytes : Nat} (E : El P t e size bytes) {ao : Option Addr} {n cap : Nat} (hcap : n ≤ cap) (lo hi : Option Value) (l r : Nat)
    (hl : (lo = none ∧ l = 0) ∨ ∃ k, lo = some (.int k (l : Int))) (hr : (hi = none ∧ r = n) ∨ ∃ k, hi = some (.int k (r : Int))) (hlr : l ≤ r) (hrn : r ≤ n) :
    (Instr.sliceAt t (.slice ao n cap) lo hi none).run P w = .ok (.slice (if cap = l then ao else ao.map (·.add (l * size))) (r - l) (cap - l)) w := by
  obtain ⟨i, z, h2, h3, h4, h5, h6⟩ := E.hi
  have hb : (Instr.sliceBounds true n cap lo hi none).run P w = .ok (l, r, cap) w := by
    rcases hl with ⟨rfl, rfl⟩ | ⟨k, rfl⟩ <;> rcases hr with ⟨rfl, rfl⟩ | ⟨k', rfl⟩
    · simp [Instr.sliceBounds]
    · simp [Instr.sliceBounds, run_sliceBound, show (r : Int) ≤ cap by omega]
    · simp [Instr.sliceBounds, run_sliceBound, show (l : Int) ≤ r by omega]
    · simp [Instr.sliceBounds, run_sliceBound, show (l : Int) ≤ r by omega, show (r : Int) ≤ cap by omega]
  simp [Instr.sliceAt, Instr.slice, run_underlying E.ht, hb, sizeOf, typeInfo, h2, h4]

/-- x[lo:hi], x a slice that reads as cells (wherever): the cut is a value of its own. -/
theorem wpl_cut {P : Program} {w : World} {ops : Array Oper} {rest : List Oper} {o : Oper} {a : Act} {Q : Exit → Act → World → Prop} (hgd : o.guard = none) (t : TypeId) (x : Operand) (lo hi : Option Operand) (ho : o.op = .slice t x lo hi none)
    {e : TypeId} {size bytes : Nat} (E : El P t e size bytes) {w1 : World} {n : Nat} {xs : List Value} (h : Sl w1 size (a.eval x) n xs) (l r : Nat)
    (hl : (lo.map a.eval = none ∧ l = 0) ∨ ∃ k, lo.map a.eval = some (.int k (l : Int))) (hr : (hi.map a.eval = none ∧ r = n) ∨ ∃ k, hi.map a.eval = some (.int k (r : Int))) (hlr : l ≤ r) (hrn : r ≤ n)
    (hk : ∀ v', (∀ w', Sl w' size (a.eval x) n xs → Sl w' size v' (r - l) ((xs.take (r * size)).drop (l * size))) → wpList P ops Q rest (a.put o.dst v') w) : wpList P ops Q (o :: rest) a w := by
  obtain ⟨ao, cap, hv, h1, _⟩ := h
  refine wpl_val hgd (v := .slice (if cap = l then ao else ao.map (·.add (l * size))) (r - l) (cap - l)) ?_ (hk _ fun w' h' => ?_)
  · unfold execOp
    simp only [ho, Sem.run_bind, hv, Option.map_none, run_slice_sl E h1 _ _ l r hl hr hlr hrn, Result.andThen_ok, Sem.run_pure]
  · rw [hv] at h'
    exact h'.cut hlr hrn

/-- Strings as cells; integers as cells. -/
def ss (l : List ByteArray) : List Value := l.map Value.string
def is (l : List Int) : List Value := l.map (Value.int .i64)
theorem ss_len (l : List ByteArray) : (ss l).length = l.length := by simp [ss]
theorem ss_app (l m : List ByteArray) : ss (l ++ m) = ss l ++ ss m := by simp [ss]
theorem ss_one (l : List ByteArray) : ∀ u ∈ ss l, u.oneCell' = true := by
  intro u hu
  obtain ⟨_, _, rfl⟩ := List.mem_map.1 hu
  rfl
theorem ss_get {l : List ByteArray} {k : Nat} (h : k < l.length) : (ss l)[k]? = some (.string l[k]) := by simp [ss, h]
theorem ss_cut (l : List ByteArray) (a b : Nat) : ((ss l).take (b * 1)).drop (a * 1) = ss ((l.take b).drop a) := by simp [ss, List.map_take, List.map_drop]
theorem bs_cut (l : List UInt8) (a b : Nat) : ((bs l).take (b * 1)).drop (a * 1) = bs ((l.take b).drop a) := by simp [bs, List.map_take, List.map_drop]

/-- A slice of strings, by its cells. -/
theorem Sl.txt {w : World} {v : Value} {n : Nat} {l : List ByteArray} (h : Sl w 1 v n (ss l)) : ∃ ao cap blk off, v = .slice ao n cap ∧ n ≤ cap ∧ cap ≤ 9223372036854775807 ∧ n = l.length ∧
    (∀ k (hk : k < l.length), ao = some ⟨blk, off, none⟩ ∧ w.cell? ⟨blk, off + k, none⟩ = some (.string l[k])) := by
  obtain ⟨ao, cap, rfl, h1, h2, h3, _, hc⟩ := h.form
  unfold maxLen at h2
  rw [ss_len] at h3
  by_cases hnil : l = []
  · subst hnil; exact ⟨ao, cap, 0, 0, rfl, h1, by omega, by omega, fun k hk => by simp at hk⟩
  · obtain ⟨blk, off, rfl, hh⟩ := hc (by simpa [ss] using hnil)
    exact ⟨_, cap, blk, off, rfl, h1, by omega, by omega, fun k hk => ⟨rfl, hh k _ (ss_get hk)⟩⟩

/-- A guarded operation whose guard says yes. -/
theorem wpl_want {P : Program} {w : World} {ops : Array Oper} {rest : List Oper} {d : Option Tmp} {op : Op} {ty : TypeId} {pos : String} {af : Array Edge} {g : Nat × Bool} {a : Act} {Q : Exit → Act → World → Prop}
    (hw : Region.wanted ⟨d, op, ty, pos, af, some g⟩ (yielded ops a.tmps) = true) (h : wpList P ops Q (⟨d, op, ty, pos, af, none⟩ :: rest) a w) : wpList P ops Q (⟨d, op, ty, pos, af, some g⟩ :: rest) a w := by
  unfold wpList at h ⊢
  rw [if_pos hw]
  rw [if_pos (by simp [Region.wanted])] at h
  exact h
/-- The cells of a slice of bytes that came in and is not empty. -/
theorem Sl.bytes {w : World} {v : Value} {n : Nat} {l : List UInt8} (h : Sl w 1 v n (bs l)) : ∃ ao cap, v = .slice ao n cap ∧ n ≤ cap ∧ cap ≤ maxLen ∧ n = l.length ∧
    (l ≠ [] → ∃ b off, ao = some ⟨b, off, none⟩ ∧ ∀ k (hk : k < l.length), w.cell? ⟨b, off + k, none⟩ = some (.int .u8 (l[k].toNat : Int))) := by
  obtain ⟨ao, cap, rfl, h1, h2, h3, _, h4⟩ := h.form
  refine ⟨ao, cap, rfl, h1, h2, by rw [bs_len] at h3; omega, fun hne => ?_⟩
  obtain ⟨b, off, rfl, hc⟩ := h4 (by simpa [bs] using hne)
  exact ⟨b, off, rfl, fun k hk => hc k _ (bs_get hk)⟩
/-- The same, for the empty one too. -/
theorem Sl.byt {w : World} {v : Value} {n : Nat} {l : List UInt8} (h : Sl w 1 v n (bs l)) : ∃ ao cap blk off, v = .slice ao n cap ∧ n ≤ cap ∧ cap ≤ 9223372036854775807 ∧ n = l.length ∧
    (∀ k (hk : k < l.length), ao = some ⟨blk, off, none⟩ ∧ w.cell? ⟨blk, off + k, none⟩ = some (.int .u8 (l[k].toNat : Int))) := by
  obtain ⟨ao, cap, rfl, h1, h2, h3, hc⟩ := h.bytes
  unfold maxLen at h2
  by_cases hnil : l = []
  · subst hnil; exact ⟨ao, cap, 0, 0, rfl, h1, by omega, h3, fun k hk => by simp at hk⟩
  · obtain ⟨blk, off, rfl, hh⟩ := hc hnil
    exact ⟨_, cap, blk, off, rfl, h1, by omega, h3, fun k hk => ⟨rfl, hh k hk⟩⟩

/-- A slice of bytes, by its cells. -/
theorem Sl.of_cells {w : World} {b off cap : Nat} {l : List UInt8} (h : ∀ k (hk : k < l.length), w.cell? ⟨b, off + k, none⟩ = some (.int .u8 (l[k].toNat : Int))) (hc : l.length ≤ cap) (hm : cap ≤ maxLen) :
    Sl w 1 (.slice (some ⟨b, off, none⟩) l.length cap) l.length (bs l) := by
  refine ⟨_, _, rfl, hc, hm, by rw [bs_len, Nat.mul_one], by simp, fun j u hu => ⟨_, rfl, ?_⟩⟩
  rw [Addr.add_lit]
  have hj : j < l.length := by rw [← bs_len]; exact (List.getElem?_eq_some_iff.1 hu).1
  rw [bs_get hj] at hu
  rw [h j hj, hu]
end Go.Mx
