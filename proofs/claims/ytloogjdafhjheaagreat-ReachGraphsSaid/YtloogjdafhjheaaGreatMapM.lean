/- Maps keyed by texts, beside the symbolic heap: what a map's block holds, as a list; look-ups, stores, lengths, ranges. -/
import Derived.Test.YtloogjdafhjheaaGreatJ1Lib3
import Derived.Maps.RangeWalk
import Derived.Maps.RangeRun
import Derived.Carry
namespace Go.Mx
open Go Go.RowKit
open Go.ChangeMaps (setBlock)

abbrev Ent := ByteArray × Value
def entV (p : Ent) : Value × Value := (.string p.1, p.2)
/-- Block b is a map that holds just these, in the order in which they came. -/
def Mp (w : World) (b : Nat) (l : List Ent) : Prop :=
  ∃ es clock, w.heap[b]? = some (.map es clock) ∧ es.toList.map (fun e => (e.key, e.val)) = l.map entV ∧ (∀ e ∈ es.toList, e.born < clock) ∧ (es.toList.map (·.born)).Nodup

def mget : List Ent → ByteArray → Option Value
  | [], _ => none
  | p :: l, k => if p.1 = k then some p.2 else mget l k
def mset : List Ent → ByteArray → Value → List Ent
  | [], k, v => [(k, v)]
  | p :: l, k, v => if p.1 = k then (k, v) :: l else p :: mset l k v

theorem mget_set (l : List Ent) (k k' : ByteArray) (v : Value) : mget (mset l k v) k' = if k = k' then some v else mget l k' := by
  induction l with
  | nil => simp [mset, mget]
  | cons p l ih =>
    rw [mset]
    by_cases h : p.1 = k
    · rw [if_pos h]
      by_cases h2 : k = k'
      · simp [mget, h2]
      · simp [mget, h, h2]
    · rw [if_neg h, mget, ih, mget]
      by_cases h2 : p.1 = k'
      · rw [if_pos h2, if_pos h2, if_neg (by rintro rfl; exact h h2)]
      · rw [if_neg h2, if_neg h2]
theorem mget_some {l : List Ent} {k : ByteArray} {v : Value} (h : mget l k = some v) : (k, v) ∈ l := by
  induction l with
  | nil => cases h
  | cons p l ih =>
    rw [mget] at h
    split at h
    · rename_i hp; cases h; rw [← hp]; exact List.mem_cons_self ..
    · exact List.mem_cons_of_mem _ (ih h)
theorem mget_none {l : List Ent} {k : ByteArray} : mget l k = none ↔ k ∉ l.map Prod.fst := by
  induction l with
  | nil => simp [mget]
  | cons p l ih =>
    rw [mget, List.map_cons, List.mem_cons]
    split
    · rename_i h; simp [h]
    · rename_i h
      rw [ih]
      constructor
      · intro h1 h2; rcases h2 with h2 | h2; exact h h2.symm; exact h1 h2
      · intro h1 h2; exact h1 (.inr h2)
theorem mset_none {l : List Ent} {k : ByteArray} {v : Value} (h : mget l k = none) : mset l k v = l ++ [(k, v)] := by
  induction l with
  | nil => rfl
  | cons p l ih =>
    rw [mget] at h
    split at h
    · cases h
    · rename_i hp
      rw [mset, if_neg hp, ih h]
      rfl
theorem mset_len_le (l : List Ent) (k : ByteArray) (v : Value) : (mset l k v).length ≤ l.length + 1 := by
  induction l with
  | nil => simp [mset]
  | cons p l ih =>
    rw [mset]
    split <;> simp
    omega
theorem mset_keys {l : List Ent} {k : ByteArray} {v0 : Value} (h : mget l k = some v0) (v : Value) : (mset l k v).map Prod.fst = l.map Prod.fst := by
  induction l with
  | nil => cases h
  | cons p l ih =>
    rw [mset]
    split
    · rename_i hp
      rw [List.map_cons, List.map_cons, hp]
    · rename_i hp
      rw [mget, if_neg hp] at h
      rw [List.map_cons, ih h, List.map_cons]

theorem beq_ba (a b : ByteArray) : (a == b) = decide (a = b) := by
  show (a.data == b.data) = decide (a = b)
  rw [Bool.eq_iff_iff, beq_iff_eq, decide_eq_true_iff]
  exact ⟨fun h => ByteArray.ext h, fun h => congrArg _ h⟩

/-- The first entry of a key. -/
theorem findNow_str (k : ByteArray) : ∀ (es : List MapEntry) (l : List Ent) (i : Nat), es.map (fun e => (e.key, e.val)) = l.map entV →
    (∃ j v, mget l k = some v ∧ Instr.findNow .string (.string k) es i = some (some (i + j, v)) ∧ j < es.length ∧
      (∀ v' : Value, (es.modify j fun e => { e with key := .string k, val := v' }).map (fun e => (e.key, e.val)) = (mset l k v').map entV) ∧ es[j]?.map (·.key) = some (.string k)) ∨
    (mget l k = none ∧ Instr.findNow .string (.string k) es i = some none)
  | [], [], i, _ => .inr ⟨rfl, rfl⟩
  | [], _ :: _, _, h => by simp at h
  | _ :: _, [], _, h => by simp at h
  | e :: es, p :: l, i, h => by
    simp only [List.map_cons, List.cons.injEq] at h
    obtain ⟨h1, h2⟩ := h
    have hk : e.key = .string p.1 := congrArg Prod.fst h1
    have hv : e.val = p.2 := congrArg Prod.snd h1
    by_cases hp : p.1 = k
    · left
      refine ⟨0, p.2, by rw [mget, if_pos hp], ?_, by simp, fun v' => ?_, by simp [hk, hp]⟩
      · simp only [Instr.findNow, hk, Instr.sameNow, hv]
        rw [show (k == p.1) = true by rw [beq_ba]; simp [hp]]
        rfl
      · rw [mset, if_pos hp]
        simp only [List.modify_zero_cons, List.map_cons]
        rw [h2]
        rfl
    · have hb : (k == p.1) = false := by rw [beq_ba]; simp; exact fun h => hp h.symm
      have hs : Instr.findNow .string (.string k) (e :: es) i = Instr.findNow .string (.string k) es (i + 1) := by
        simp only [Instr.findNow, hk, Instr.sameNow, hb]
      rcases findNow_str k es l (i + 1) h2 with ⟨j, v, g1, g2, g3, g4, g5⟩ | ⟨g1, g2⟩
      · left
        refine ⟨j + 1, v, by rw [mget, if_neg hp, g1], by rw [hs, g2]; congr 3; omega, by simp; omega, fun v' => ?_, by simpa using g5⟩
        rw [mset, if_neg hp]
        simp only [List.modify_succ_cons, List.map_cons]
        rw [g4 v', h1]
      · right
        exact ⟨by rw [mget, if_neg hp, g1], by rw [hs, g2]⟩

theorem Mp.lt {w : World} {b : Nat} {l : List Ent} (h : Mp w b l) : b < w.heap.size := by
  obtain ⟨es, clock, hb, _⟩ := h
  exact (Array.getElem?_eq_some_iff.1 hb).1
theorem Mp.grow {w w' : World} {b : Nat} {l : List Ent} (h : Mp w b l) (hb : Below w.heap.size w w') : Mp w' b l := by
  have hlt := h.lt
  obtain ⟨es, clock, h0, rest⟩ := h
  exact ⟨es, clock, by rw [hb.block b hlt]; exact h0, rest⟩
theorem Mp.kept {w w' : World} {b : Nat} {l : List Ent} {row : Option Nat} (h : Mp w b l) (hg : w.grownBy w' row) (hne : row ≠ some b) : Mp w' b l := by
  have hlt := h.lt
  obtain ⟨es, clock, h0, rest⟩ := h
  exact ⟨es, clock, by rw [hg.block b hlt (by intro e; exact hne e.symm)]; exact h0, rest⟩
theorem Mp.made (w : World) : Mp (w.alloc (.map #[] 0)) w.heap.size [] :=
  ⟨#[], 0, heap_alloc_new w _, rfl, by simp, by simp⟩
/-- A row's block is no map. -/
theorem Mp.apart {w : World} {b : Nat} {l : List Ent} (h : Mp w b l) {base : Nat} {e : TypeId} {size : Nat} {v : Value} {n : Nat} {xs : List Value} (ho : Ow w base e size v n xs) : v.ownBlock ≠ some b := by
  obtain ⟨es, clock, h0, _⟩ := h
  intro hc
  rcases ho.2 with ⟨rfl, _⟩ | ⟨g, cap, cur, fr, rfl, _, hg, _⟩
  · simp [Value.ownBlock] at hc
  · simp [Value.ownBlock] at hc
    subst hc
    rw [h0] at hg
    cases hg
theorem Mp.apartQ {w : World} {b : Nat} {l : List Ent} (h : Mp w b l) {size : Nat} {v : Value} {n : Nat} {xs : List Value} (hq : Sl w size v n xs) (hne : xs ≠ []) : v.ownBlock ≠ some b := by
  obtain ⟨es, clock, h0, _⟩ := h
  obtain ⟨ao, cap, rfl, _, _, _, _, hc⟩ := hq
  match xs, hne with
  | x :: xs, _ =>
    obtain ⟨a, rfl, hcell⟩ := hc 0 x rfl
    intro hb
    simp [Value.ownBlock] at hb
    have hb2 : (a.add 0).block = b := (Addr.add_block a 0).trans hb
    unfold World.cell? at hcell
    rw [hb2, h0] at hcell
    simp at hcell

theorem perm_of_map {α β : Type} {f : α → β} (hf : ∀ a c, f a = f c → a = c) : ∀ {l m : List α}, (l.map f).Perm (m.map f) → l.Perm m
  | [], m, h => by
    have := h.length_eq
    simp at this
    obtain rfl : m = [] := List.eq_nil_of_length_eq_zero this.symm
    exact List.Perm.refl _
  | a :: l, m, h => by
    have hm : f a ∈ m.map f := h.mem_iff.1 (by simp)
    obtain ⟨c, hc, he⟩ := List.mem_map.1 hm
    have := hf c a he
    subst this
    obtain ⟨s, t, rfl⟩ := List.append_of_mem hc
    rw [List.map_cons, List.map_append, List.map_cons] at h
    have h2 : (l.map f).Perm ((s ++ t).map f) := by
      rw [List.map_append]
      exact (h.trans List.perm_middle).cons_inv
    exact ((perm_of_map hf h2).cons c).trans List.perm_middle.symm

variable {P : Program}

theorem run_look {w : World} {t kt et : TypeId} (ht : P.underlying t = some (.map kt et)) (hk : P.underlying kt = some .string) {z : Value} (hz : ∀ w : World, (zeroValue et).run P w = .ok z w) {b : Nat} {l : List Ent} (h : Mp w b l) (k : ByteArray) (ok : Bool) :
    (Instr.lookup t (.map (some b)) (.string k) ok).run P w = .ok (if ok then .tuple #[(mget l k).getD z, .bool (mget l k).isSome] else (mget l k).getD z) w := by
  obtain ⟨es, clock, hb, hes, _⟩ := h
  have hf := findNow_str k es.toList l 0 hes
  have hck : ∀ (e : Bool), (Instr.checkKey e 10000 kt (.string k)).run P w = .ok () w := fun e => by
    rw [show (10000 : Nat) = 9999 + 1 from rfl]
    unfold Instr.checkKey
    simp [run_underlying hk]
  unfold Instr.lookup
  simp only [Sem.run_bind, run_underlying ht, Result.andThen_ok, MapKept.run_getObj_map hb, Sem.run_pure, hck]
  unfold Instr.findKey
  simp only [Sem.run_bind, run_underlying hk, Result.andThen_ok]
  rcases hf with ⟨j, v, g1, g2, _⟩ | ⟨g1, g2⟩
  · rw [g2]
    simp only [Sem.run_pure, Result.andThen_ok, g1]
    cases ok <;> simp
  · rw [g2]
    simp only [Sem.run_pure, Result.andThen_ok, g1, Sem.run_bind, hz]
    cases ok <;> simp

/-- A look-up in a map that is nil. -/
theorem run_look_nil {w : World} {t kt et : TypeId} (ht : P.underlying t = some (.map kt et)) (hk : P.underlying kt = some .string) {z : Value} (hz : ∀ w : World, (zeroValue et).run P w = .ok z w) (k : ByteArray) (ok : Bool) :
    (Instr.lookup t (.map none) (.string k) ok).run P w = .ok (if ok then .tuple #[z, .bool false] else z) w := by
  have hck : ∀ (e : Bool), (Instr.checkKey e 10000 kt (.string k)).run P w = .ok () w := fun e => by
    rw [show (10000 : Nat) = 9999 + 1 from rfl]
    unfold Instr.checkKey
    simp [run_underlying hk]
  unfold Instr.lookup
  simp only [Sem.run_bind, run_underlying ht, Result.andThen_ok, Sem.run_pure, hck]
  unfold Instr.findKey
  simp only [Sem.run_bind, run_underlying hk, Result.andThen_ok, Instr.findNow, Sem.run_pure, hz]

theorem grown_setBlock {w : World} {b : Nat} {es : Array MapEntry} {clock : Nat} (hb : w.heap[b]? = some (.map es clock)) (o : Obj) : w.grownBy (setBlock w b o) (some b) :=
  ⟨rfl, rfl, rfl, by simp [setBlock], fun i _ hi => ChangeMaps.heap_setBlock_other hb _ (fun e => hi (by rw [e]))⟩

/-- A store: into a map. -/
theorem run_mset {w : World} {t kt et : TypeId} (ht : P.underlying t = some (.map kt et)) (hk : P.underlying kt = some .string) {b : Nat} {l : List Ent} (h : Mp w b l) (k : ByteArray) (v : Value) :
    ∃ w', (Instr.mapUpdate t (.map (some b)) (.string k) v).run P w = .ok () w' ∧ Mp w' b (mset l k v) ∧ w.grownBy w' (some b) ∧ w'.heap.size = w.heap.size := by
  obtain ⟨es, clock, hb, hes, hbo, hnd⟩ := h
  have hf := findNow_str k es.toList l 0 hes
  have hck : (Instr.checkKey false 10000 kt (.string k)).run P w = .ok () w := by
    rw [show (10000 : Nat) = 9999 + 1 from rfl]
    unfold Instr.checkKey
    simp [run_underlying hk]
  rcases hf with ⟨j, v0, g1, g2, g3, g4, g5⟩ | ⟨g1, g2⟩
  · have hkey : (es[0 + j]?.map (·.key)).getD (.string k) = .string k := by
      rw [Nat.zero_add]
      rw [← Array.getElem?_toList, g5]
      rfl
    have hst : (Instr.keyThatStays (.string k) (.string k)).run P w = .ok (.string k) w := by
      unfold Instr.keyThatStays
      rw [if_pos (by show (k == k) = true; rw [beq_ba]; simp)]
      rfl
    refine ⟨setBlock w b (.map (es.modify j fun e => { e with key := .string k, val := v }) clock), ?_, ⟨_, clock, ChangeMaps.heap_setBlock_same hb _, ?_, ?_, ?_⟩, grown_setBlock hb _, by simp [setBlock]⟩
    · unfold Instr.mapUpdate
      simp only [Sem.run_bind, run_underlying ht, Result.andThen_ok, MapKept.run_getObj_map hb, hck]
      unfold Instr.findKey
      simp only [Sem.run_bind, run_underlying hk, Result.andThen_ok, g2, Sem.run_pure]
      rw [hkey]
      simp only [hst, Result.andThen_ok, MapKept.run_setObj_map _ hb, Nat.zero_add]
      rfl
    · rw [Array.toList_modify]
      exact g4 v
    · rw [Array.toList_modify]
      intro e he
      obtain ⟨i, hi⟩ := List.getElem?_of_mem he
      rw [List.getElem?_modify] at hi
      obtain ⟨e0, h0, h1⟩ := Option.map_eq_some_iff.1 hi
      have := hbo e0 (List.mem_of_getElem? h0)
      rw [← h1]
      split <;> exact this
    · rw [Array.toList_modify]
      have : (es.toList.modify j fun e => { e with key := .string k, val := v }).map (·.born) = es.toList.map (·.born) := by
        apply List.ext_getElem?
        intro i
        simp only [List.getElem?_map, List.getElem?_modify]
        cases es.toList[i]? with
        | none => rfl
        | some e => simp; split <;> rfl
      rw [this]; exact hnd
  · refine ⟨setBlock w b (.map (es.push { key := .string k, val := v, born := clock }) (clock + 1)), ?_, ⟨_, _, ChangeMaps.heap_setBlock_same hb _, ?_, ?_, ?_⟩, grown_setBlock hb _, by simp [setBlock]⟩
    · unfold Instr.mapUpdate
      simp only [Sem.run_bind, run_underlying ht, Result.andThen_ok, MapKept.run_getObj_map hb, hck]
      unfold Instr.findKey
      simp only [Sem.run_bind, run_underlying hk, Result.andThen_ok, g2, Sem.run_pure, MapKept.run_setObj_map _ hb]
      rfl
    · rw [mset_none g1]
      simp only [Array.toList_push, List.map_append, hes, List.map_cons, List.map_nil]
      rfl
    · intro e he
      simp only [Array.toList_push, List.mem_append, List.mem_singleton] at he
      rcases he with he | rfl
      · have := hbo e he; omega
      · simp
    · simp only [Array.toList_push, List.map_append, List.map_cons, List.map_nil]
      rw [List.nodup_append]
      refine ⟨hnd, by simp, fun x hx y hy => ?_⟩
      obtain ⟨e, he, rfl⟩ := List.mem_map.1 hx
      simp at hy
      have := hbo e he
      omega

/-- A block that is no row of cells. -/
def NoRow (w : World) (b : Nat) : Prop := ∃ o, w.heap[b]? = some o ∧ ∀ c e f, o ≠ .cells c e f
theorem Mp.noRow {w : World} {b : Nat} {l : List Ent} (h : Mp w b l) : NoRow w b := by
  obtain ⟨es, clock, h0, _⟩ := h
  exact ⟨_, h0, fun _ _ _ h => by cases h⟩
theorem NoRow.apart {w : World} {b : Nat} (h : NoRow w b) {base : Nat} {e : TypeId} {size : Nat} {v : Value} {n : Nat} {xs : List Value} (ho : Ow w base e size v n xs) : v.ownBlock ≠ some b := by
  obtain ⟨o, h0, hn⟩ := h
  intro hc
  rcases ho.2 with ⟨rfl, _⟩ | ⟨g, cap, cur, fr, rfl, _, hg, _⟩
  · simp [Value.ownBlock] at hc
  · simp [Value.ownBlock] at hc
    subst hc
    rw [h0] at hg
    exact hn _ _ _ (Option.some.inj hg)
theorem NoRow.apartQ {w : World} {b : Nat} (h : NoRow w b) {size : Nat} {v : Value} {n : Nat} {xs : List Value} (hq : Sl w size v n xs) (hne : xs ≠ []) : v.ownBlock ≠ some b := by
  obtain ⟨o, h0, hn⟩ := h
  obtain ⟨ao, cap, rfl, _, _, _, _, hc⟩ := hq
  match xs, hne with
  | x :: xs, _ =>
    obtain ⟨a, rfl, hcell⟩ := hc 0 x rfl
    intro hb
    simp [Value.ownBlock] at hb
    have hb2 : (a.add 0).block = b := (Addr.add_block a 0).trans hb
    unfold World.cell? at hcell
    rw [hb2, h0] at hcell
    cases o with
    | cells c e f => exact hn c e f rfl
    | _ => simp at hcell
/-- What is owned and read beside such a block stays while the block is written. -/
theorem St.other {w0 w w' : World} {R : List Row} {Q : List Rd} {b : Nat} (h : St w0 w R Q) (hm : NoRow w b) (hb : w0.heap.size ≤ b) (hg : w.grownBy w' (some b)) : St w0 w' R Q where
  below := h.below.trans ⟨hg.os, hg.tape, hg.output, hg.size, fun i hi => hg.block i (Nat.lt_of_lt_of_le hi h.size) (by intro e; have := Option.some.inj e; omega)⟩
  own r hr := (h.own r hr).kept hg (by
    by_cases hn : r.v.ownBlock = none
    · exact .inl hn
    · exact .inr (hm.apart (h.own r hr)))
  sep := h.sep
  rd q hq := (h.rd q hq).same fun hne c hc hlt => hg.block c hlt (by
    intro e
    have := Option.some.inj e
    subst this
    exact hm.apartQ (h.rd q hq) hne hc)
  apart := h.apart
theorem St.mapSet {w0 w w' : World} {R : List Row} {Q : List Rd} {b : Nat} {l : List Ent} (h : St w0 w R Q) (hm : Mp w b l) (hb : w0.heap.size ≤ b) (hg : w.grownBy w' (some b)) : St w0 w' R Q := h.other hm.noRow hb hg

theorem wpl_mset {w0 w : World} {R : List Row} {Qs : List Rd} {ops : Array Oper} {rest : List Oper} {o : Oper} {a : Act} {Q : Exit → Act → World → Prop} (hgd : o.guard = none) (t : TypeId) (m x v : Operand) (ho : o.op = .mapUpdate t m x v)
    {kt et : TypeId} (ht : P.underlying t = some (.map kt et)) (hk : P.underlying kt = some .string) {b : Nat} {l : List Ent} (hm : Mp w b l) (hst : St w0 w R Qs) (hb : w0.heap.size ≤ b) (hme : a.eval m = .map (some b)) (k : ByteArray) (hx : a.eval x = .string k)
    (h : ∀ w', Mp w' b (mset l k (a.eval v)) → St w0 w' R Qs → w.grownBy w' (some b) → w'.heap.size = w.heap.size → wpList P ops Q rest (a.put o.dst undef) w') : wpList P ops Q (o :: rest) a w := by
  refine wpList_plain hgd fun K hK => ?_
  obtain ⟨w', hr, h1, h2, h3⟩ := run_mset (P := P) ht hk hm k (a.eval v)
  unfold Oper.wp execOp
  simp only [ho, hme, hx, Sem.run_bind, hr, Result.andThen_ok, Sem.run_pure]
  exact hK _ _ (h w' h1 (hst.mapSet hm hb h2) h2 h3)

theorem wpl_look {w : World} {ops : Array Oper} {rest : List Oper} {o : Oper} {a : Act} {Q : Exit → Act → World → Prop} (hgd : o.guard = none) (t : TypeId) (m x : Operand) (ok : Bool) (ho : o.op = .lookup t m x ok)
    {kt et : TypeId} (ht : P.underlying t = some (.map kt et)) (hk : P.underlying kt = some .string) {z : Value} (hz : ∀ w : World, (zeroValue et).run P w = .ok z w) {b : Nat} {l : List Ent} (hm : Mp w b l) (hme : a.eval m = .map (some b)) (k : ByteArray) (hx : a.eval x = .string k)
    (h : wpList P ops Q rest (a.put o.dst (if ok then .tuple #[(mget l k).getD z, .bool (mget l k).isSome] else (mget l k).getD z)) w) : wpList P ops Q (o :: rest) a w :=
  wpl_val hgd (by unfold execOp; simp only [ho, hme, hx, Sem.run_bind, run_look ht hk hz hm k ok, Result.andThen_ok, Sem.run_pure]) h

theorem wpl_mlen {w : World} {ops : Array Oper} {rest : List Oper} {o : Oper} {a : Act} {Q : Exit → Act → World → Prop} (hgd : o.guard = none) (t : TypeId) (m : Operand) (ho : o.op = .call { callee := .builtin .len, args := #[m], argTypes := #[t] })
    {kt et : TypeId} (ht : P.underlying t = some (.map kt et)) {b : Nat} {l : List Ent} (hm : Mp w b l) (hme : a.eval m = .map (some b))
    (h : wpList P ops Q rest (a.put o.dst (.int .i64 (l.length : Int))) w) : wpList P ops Q (o :: rest) a w := by
  obtain ⟨es, clock, hb, hes, _⟩ := hm
  have hl : es.size = l.length := by
    have := congrArg List.length hes
    simpa using this
  refine wpl_val hgd ?_ h
  unfold execOp
  simp only [ho, resolve, invoke, builtin, Sem.run_bind, Sem.run_pure, Result.andThen_ok, List.map_toArray, List.map_cons, List.map_nil, hme]
  simp [Builtin.len_, run_underlying ht, MapKept.run_getObj_map hb, goInt, hl]

/-- The law of append that tells which block may have turned. -/
theorem wpl_appG {w0 w : World} {R : List Row} {Qs : List Rd} {ops : Array Oper} {rest : List Oper} {o : Oper} {a : Act} {Q : Exit → Act → World → Prop} (hgd : o.guard = none) (s x : Operand) (t : TypeId)
    (ho : o.op = .call { callee := .builtin .append, args := #[s, x], argTypes := #[t, t] })
    {v : Value} {e : TypeId} {size bytes n : Nat} (E : El P t e size bytes) {xs : List Value} (hst : St w0 w (⟨v, e, size, n, xs⟩ :: R) Qs) (hs : a.eval s = v)
    {m : Nat} {news : List Value} (hx : Sl w size (a.eval x) m news) (h1 : ∀ u ∈ news, u.oneCell' = true) (hbytes : (n + m) * bytes ≤ 140737488355328)
    (h : ∀ v' w', St w0 w' (⟨v', e, size, n + m, xs ++ news⟩ :: R) Qs → w.grownBy w' v.ownBlock → wpList P ops Q rest (a.put o.dst v') w') : wpList P ops Q (o :: rest) a w := by
  obtain ⟨i, z, h2, h3, h4, h5, h6⟩ := E.hi
  refine wpList_plain hgd fun K hK => ?_
  have hl : news.length = m * size := hx.len
  obtain ⟨v', w', hr, g2, g3, g4, g5⟩ := run_append_src (P := P) w0.heap.size t t o.type e i z size bytes E.ht (.slice e) E.ht (.inr ⟨_, rfl⟩) h2 h3 h4 h5 h6 v n xs (hst.own _ (List.mem_cons_self ..)) (a.eval x) m news hl (lenOf_sl hx) (firstCells_sl hx) h1 (len_of_bytes E.hb hbytes) hbytes hst.size
  unfold Oper.wp execOp
  simp only [ho, resolve, invoke, builtin, Sem.run_bind, Sem.run_pure, Result.andThen_ok, List.map_toArray, List.map_cons, List.map_nil, hs, hr]
  exact hK _ _ (h v' w' (hst.turn g2 g3 g4) g3)

/-- Block r ranges over the map in block b, which holds l; these are still to come. -/
def Rg (w : World) (r b : Nat) (l left : List Ent) : Prop :=
  ∃ es clock seen, w.heap[r]? = some (.mapIter (some b) clock seen clock) ∧ w.heap[b]? = some (.map es clock) ∧ es.toList.map (fun e => (e.key, e.val)) = l.map entV ∧ (∀ e ∈ es.toList, e.born < clock) ∧ (es.toList.map (·.born)).Nodup ∧
    (leftOf es seen).toList.map (fun e => (e.key, e.val)) = left.map entV
theorem Rg.mp {w : World} {r b : Nat} {l left : List Ent} (h : Rg w r b l left) : Mp w b l := by
  obtain ⟨es, clock, seen, _, h1, h2, h3, h4, _⟩ := h
  exact ⟨es, clock, h1, h2, h3, h4⟩
theorem Rg.noRow {w : World} {r b : Nat} {l left : List Ent} (h : Rg w r b l left) : NoRow w r := by
  obtain ⟨es, clock, seen, h0, _⟩ := h
  exact ⟨_, h0, fun _ _ _ h => by cases h⟩
theorem Rg.lt {w : World} {r b : Nat} {l left : List Ent} (h : Rg w r b l left) : r < w.heap.size := by
  obtain ⟨es, clock, seen, h0, _⟩ := h
  exact (Array.getElem?_eq_some_iff.1 h0).1
theorem Rg.grow {w w' : World} {r b : Nat} {l left : List Ent} (h : Rg w r b l left) (hb : Below w.heap.size w w') : Rg w' r b l left := by
  have h1 := h.lt
  have h2 := h.mp.lt
  obtain ⟨es, clock, seen, g1, g2, rest⟩ := h
  exact ⟨es, clock, seen, by rw [hb.block r h1]; exact g1, by rw [hb.block b h2]; exact g2, rest⟩
theorem Rg.kept {w w' : World} {r b : Nat} {l left : List Ent} {row : Option Nat} (h : Rg w r b l left) (hg : w.grownBy w' row) (hr : row ≠ some r) (hb : row ≠ some b) : Rg w' r b l left := by
  have h1 := h.lt
  have h2 := h.mp.lt
  obtain ⟨es, clock, seen, g1, g2, rest⟩ := h
  exact ⟨es, clock, seen, by rw [hg.block r h1 (by intro e; exact hr e.symm)]; exact g1, by rw [hg.block b h2 (by intro e; exact hb e.symm)]; exact g2, rest⟩

theorem run_mrange {w : World} {t kt et : TypeId} (ht : P.underlying t = some (.map kt et)) {b : Nat} {l : List Ent} (h : Mp w b l) :
    ∃ w', (Instr.range t (.map (some b))).run P w = .ok (.pointer (some ⟨w.heap.size, 0, none⟩)) w' ∧ Rg w' w.heap.size b l l ∧ Below w.heap.size w w' ∧ w'.heap.size = w.heap.size + 1 := by
  have hlt := h.lt
  obtain ⟨es, clock, h1, h2, h3, h4⟩ := h
  refine ⟨_, run_range_map w t kt et b es clock ht h1, ⟨es, clock, #[], heap_alloc_new w _, by rw [heap_alloc_old w _ hlt]; exact h1, h2, h3, h4, ?_⟩, (Below.refl _ _).alloc (Nat.le_refl _) _, Array.size_push _⟩
  unfold leftOf
  rw [show (es.filter fun e => !(#[] : Array Nat).contains e.born) = es from Array.filter_eq_self.2 (fun _ _ => by simp)]
  exact h2

theorem perm_out {α : Type} [DecidableEq α] {β : Type} (f : β → α) : ∀ {l : List β} {x : β}, x ∈ l → (l.map f).Nodup → l.Perm (x :: l.filter fun y => f y ≠ f x)
  | [], x, h, _ => by cases h
  | y :: l, x, h, hn => by
    rw [List.map_cons, List.nodup_cons] at hn
    by_cases hxy : f y = f x
    · have hx : y = x := by
        rcases List.mem_cons.1 h with rfl | h
        · rfl
        · exact absurd (List.mem_map.2 ⟨x, h, hxy.symm⟩) hn.1
      subst hx
      rw [List.filter_cons_of_neg (by simp), List.filter_eq_self.2 (fun z hz => by
        simp only [ne_eq, decide_not, Bool.not_eq_true', decide_eq_false_iff_not]
        intro e
        exact hn.1 (List.mem_map.2 ⟨z, hz, e⟩))]
    · have hx : x ∈ l := by
        rcases List.mem_cons.1 h with rfl | h
        · exact absurd rfl hxy
        · exact h
      rw [List.filter_cons_of_pos (by simpa using hxy)]
      exact ((perm_out f hx hn.2).cons y).trans (List.Perm.swap ..)

/-- The step: nothing is left, or one that was left has come. -/
theorem run_mnext {w : World} {r b : Nat} {l left : List Ent} (h : Rg w r b l left) (ty : TypeId) :
    (left = [] ∧ (Instr.next (.pointer (some ⟨r, 0, none⟩)) false ty).run P w = .ok (.tuple #[.bool false]) w) ∨
    ∃ (p : Ent) (left' : List Ent) (w' : World), left.Perm (p :: left') ∧ (Instr.next (.pointer (some ⟨r, 0, none⟩)) false ty).run P w = .ok (.tuple #[.bool true, .string p.1, p.2]) w' ∧ Rg w' r b l left' ∧ w.grownBy w' (some r) ∧ w'.heap.size = w.heap.size ∧
      (Instr.entry (.pointer (some ⟨r, 0, none⟩))).run P w' = .ok (.tuple #[.string p.1, p.2]) w' := by
  obtain ⟨es, clock, seen, h1, h2, h3, h4, h5, h6⟩ := h
  rcases run_next_at (P := P) w ty r b clock clock seen es clock h1 h2 h4 (Nat.le_refl _) with ⟨g1, g2⟩ | ⟨e, he, w1, hw, g2⟩
  · left
    refine ⟨?_, g2⟩
    have := congrArg List.length h6
    simp [g1] at this
    exact List.eq_nil_of_length_eq_zero this.symm
  · right
    obtain ⟨p, hp, hpe⟩ : ∃ p ∈ left, entV p = (e.key, e.val) := by
      have : (e.key, e.val) ∈ left.map entV := by rw [← h6]; exact List.mem_map.2 ⟨e, he, rfl⟩
      obtain ⟨p, hp, hpe⟩ := List.mem_map.1 this
      exact ⟨p, hp, hpe⟩
    have hk : e.key = .string p.1 := (congrArg Prod.fst hpe).symm
    have hv : e.val = p.2 := (congrArg Prod.snd hpe).symm
    have hnd : ((leftOf es seen).toList.map (·.born)).Nodup := by
      refine List.Nodup.sublist (List.Sublist.map _ ?_) h5
      unfold leftOf
      rw [Array.toList_filter]
      exact List.filter_sublist
    have hpm := perm_out (fun e : MapEntry => e.born) he hnd
    have hlf : (leftOf es (seen.push e.born)).toList = (leftOf es seen).toList.filter fun y => y.born ≠ e.born := by
      unfold leftOf
      rw [Array.toList_filter, Array.toList_filter, List.filter_filter]
      apply List.filter_congr
      intro x _
      simp only [Array.contains_push, Bool.not_or, ne_eq, decide_not]
      rw [Bool.and_comm]
      congr 1
    -- the list of what is left
    obtain ⟨left', hl'⟩ : ∃ left' : List Ent, (leftOf es (seen.push e.born)).toList.map (fun e => (e.key, e.val)) = left'.map entV := by
      have hsub : ∀ x ∈ (leftOf es (seen.push e.born)).toList, ∃ q : Ent, entV q = (x.key, x.val) := fun x hx => by
        have hx2 : x ∈ (leftOf es seen).toList := by
          rw [hlf] at hx
          exact (List.mem_filter.1 hx).1
        have : (x.key, x.val) ∈ left.map entV := by rw [← h6]; exact List.mem_map.2 ⟨x, hx2, rfl⟩
        obtain ⟨q, _, hq⟩ := List.mem_map.1 this
        exact ⟨q, hq⟩
      generalize (leftOf es (seen.push e.born)).toList = m at hsub
      induction m with
      | nil => exact ⟨[], rfl⟩
      | cons x m ih =>
        obtain ⟨q, hq⟩ := hsub x (List.mem_cons_self ..)
        obtain ⟨l', hl'⟩ := ih (fun y hy => hsub y (List.mem_cons_of_mem _ hy))
        exact ⟨q :: l', by rw [List.map_cons, List.map_cons, hl', hq]⟩
    have hinj : ∀ a c : Ent, entV a = entV c → a = c := fun a c hac => by
      obtain ⟨a1, a2⟩ := a
      obtain ⟨c1, c2⟩ := c
      simp only [entV, Prod.mk.injEq, Value.string.injEq] at hac
      rw [hac.1, hac.2]
    have hperm : left.Perm (p :: left') := by
      have h7 := hpm.map (fun e : MapEntry => (e.key, e.val))
      rw [h6, List.map_cons, ← hlf, hl', ← hpe, ← List.map_cons] at h7
      exact perm_of_map hinj h7
    have hr1 : w1.heap[r]? = some (.mapIter (some b) clock seen clock) := by rcases hw with rfl | rfl <;> exact h1
    have hb1 : w1.heap[b]? = some (.map es clock) := by rcases hw with rfl | rfl <;> exact h2
    have hrb : b ≠ r := by rintro rfl; rw [hr1] at hb1; cases hb1
    have hlt : r < w1.heap.size := (Array.getElem?_eq_some_iff.1 hr1).1
    have hs1 : (setBlock w1 r (.mapIter (some b) clock (seen.push e.born) clock)).heap[r]? = some (.mapIter (some b) clock (seen.push e.born) clock) := by
      simp [setBlock, hlt]
    have hs2 : (setBlock w1 r (.mapIter (some b) clock (seen.push e.born) clock)).heap[b]? = some (.map es clock) := by
      simp only [setBlock]
      rw [Array.getElem?_setIfInBounds_ne (by exact fun h => hrb h.symm)]
      exact hb1
    have hmem : e ∈ es.toList := by
      unfold leftOf at he
      rw [Array.toList_filter] at he
      exact (List.mem_filter.1 he).1
    refine ⟨p, left', _, hperm, by rw [g2, hk, hv], ⟨es, clock, seen.push e.born, hs1, hs2, h3, h4, h5, hl'⟩, ?_, ?_, ?_⟩
    · rcases hw with rfl | rfl
      · exact ⟨rfl, rfl, rfl, Nat.le_of_eq Array.size_setIfInBounds.symm, fun i _ hi => by simp only [setBlock]; rw [Array.getElem?_setIfInBounds_ne (fun h => hi (by rw [h]))]⟩
      · exact ⟨rfl, rfl, rfl, Nat.le_of_eq (Array.size_setIfInBounds (xs := w.heap)).symm, fun i _ hi => by simp only [setBlock]; rw [Array.getElem?_setIfInBounds_ne (fun h => hi (by rw [h]))]; rfl⟩
    · rcases hw with rfl | rfl <;> exact Array.size_setIfInBounds
    · rw [run_entry_at _ r b clock seen es clock e hs1 hs2 hmem h5, hk, hv]
end Go.Mx
