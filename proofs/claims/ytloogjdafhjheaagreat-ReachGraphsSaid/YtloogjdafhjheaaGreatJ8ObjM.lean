/- Objects in memory; walks of obj.noCommit, mayParents. From the form's reading of an argument to the symbolic heap's. From the form's reading of a slice of structs to the symbolic heap's. -/
import Derived.Test.YtloogjdafhjheaaGreatJ7ObjN
import Derived.Test.YtloogjdafhjheaaGreatLib2
import Derived.ProofKit
import Derived.OpenShut
import Derived.Deep.Fields
namespace Go.Mx
open Go Go.RowKit
def itmRow (x : Itm) : List Value := [.int .i64 x.1, .string x.2.1, .string x.2.2]
def itms (l : List Itm) : List Value := l.flatMap itmRow
/-- An object's value, by its three slices. -/
def OV (dv iv pv : Value) (o : Ob) : Value := .agg #[.int .i64 o.kind, dv, iv, .string o.tree, pv, .int .i64 o.stamp, .int .i64 o.author, .string o.msg]
structure OB (w : World) (dv iv pv : Value) (o : Ob) : Prop where
  d : Sl w 1 dv o.data.length (bs o.data)
  i : Sl w 3 iv o.items.length (itms o.items)
  p : Sl w 1 pv o.parents.length (ss o.parents)
theorem OB.old {w0 w : World} {R : List Row} {Q : List Rd} {dv iv pv : Value} {o : Ob} (h : St w0 w R Q) (ho : OB w0 dv iv pv o) : OB w dv iv pv o := ⟨h.old ho.d, h.old ho.i, h.old ho.p⟩

theorem rises_take : ∀ (l : List ByteArray) (i : Nat), risesB l = true → risesB (l.take i) = true
  | [], i, h => by simp [risesB]
  | [_], i, h => by cases i <;> simp [risesB]
  | a :: b :: r, i, h => by
    rw [risesB, Bool.and_eq_true] at h
    match i with
    | 0 => rfl
    | 1 => rfl
    | i + 2 =>
      have := rises_take (b :: r) (i + 1) h.2
      simp only [List.take_succ_cons] at this ⊢
      rw [risesB, Bool.and_eq_true]
      exact ⟨h.1, this⟩
theorem rises_snoc : ∀ (l : List ByteArray) (i : Nat) (h : i + 1 < l.length), risesB (l.take (i + 2)) = (risesB (l.take (i + 1)) && Op.bytesLess l[i].toList l[i + 1].toList)
  | a :: b :: r, 0, h => by simp [risesB]
  | a :: b :: r, i + 1, h => by
    have := rises_snoc (b :: r) i (by simpa using h)
    simp only [List.take_succ_cons, List.getElem_cons_succ] at this ⊢
    rw [risesB, this, ← Bool.and_assoc, ← risesB]
theorem rises_one (l : List ByteArray) : risesB (l.take (0 + 1)) = true := by cases l <;> rfl
theorem rises_not {l : List ByteArray} {i : Nat} (h : i + 1 < l.length) (hb : Op.bytesLess l[i].toList l[i + 1].toList = false) : risesB l = false := by
  rw [Bool.eq_false_iff]
  intro ha
  have := rises_take l (i + 2) ha
  rw [rises_snoc l i h, hb, Bool.and_false] at this
  cases this
/-- s <= t as the walk spells it, by t < s. -/
theorem less_le {t s : ByteArray} (h : Op.bytesLess t.toList s.toList = true) : Op.bytesLess s.toList t.toList = false ∧ (s.toList == t.toList) = false := by
  refine ⟨bl_asymm _ _ h, ?_⟩
  rw [beq_eq_false_iff_ne]
  intro e
  rw [e, bl_irrefl] at h
  cases h
theorem less_not {t s : ByteArray} (h : Op.bytesLess t.toList s.toList = false) : Op.bytesLess s.toList t.toList = true ∨ (Op.bytesLess s.toList t.toList = false ∧ (s.toList == t.toList) = true) := by
  cases h2 : Op.bytesLess s.toList t.toList with
  | true => exact .inl rfl
  | false => exact .inr ⟨rfl, by rw [beq_iff_eq]; exact bl_total _ _ h2 h⟩
theorem lall_snoc {α : Type} {l : List α} {p : α → Bool} {i : Nat} (h : i < l.length) : (l.take (i + 1)).all p = ((l.take i).all p && p l[i]) := by
  rw [List.take_succ_eq_append_getElem h, List.all_append]
  simp
theorem lall_not {α : Type} {l : List α} {p : α → Bool} {i : Nat} (h : i < l.length) (hp : p l[i] = false) : l.all p = false := by
  rw [Bool.eq_false_iff]
  intro ha
  have := List.all_eq_true.1 ha _ (List.getElem_mem h)
  rw [hp] at this
  cases this
end Go.Mx
namespace Go.Proofs.YtloogjdafhjheaaGreat
open Go.RowKit Go.Mx

set_option maxRecDepth 100000 in
set_option maxHeartbeats 2000000 in
theorem mayParents_any (v : Value) (l : List ByteArray) (w : World) (hv : Sl w 1 v l.length (ss l)) (hl : ∀ s ∈ l, s.size ≤ 140737488351232) :
    Calls Tryz.prog 59 #[v] w fun e w' => e = .returned (.bool (parentsB l)) ∧ St w w' [] [] := by
  obtain ⟨ao, cap, blk, off, rfl, h1, h2, _, hc⟩ := hv.txt
  have HC := Mx.hid hc
  have HZ := Mx.hid (fun (i : Nat) (hi : i < l.length) => hl l[i] (List.getElem_mem hi))
  clear hv hc hl
  go_enter Tryz.func59, Tryz.ntmps59
  go_wp2_with fail
  go_loopw [7] (fun y wr => ∃ i : Nat, i ≤ l.length ∧ y = .int .i64 i ∧ Hid ((l.take i).all validB = true ∧ risesB (l.take i) = true) ∧ St w wr [] []) (fun y _ => l.length - (intOf y).toNat)
  case atStart => exact ⟨0, by omega, rfl, Mx.hid ⟨rfl, rfl⟩, St.refl w⟩
  case round =>
    obtain ⟨i, hi, rfl, HA, hs⟩ := hrel
    by_cases hlt : i < l.length
    · obtain ⟨rfl, c0⟩ := HC.out i hlt
      have c1 := hs.keep c0
      have hz := HZ.out i hlt
      have HS := Mx.hid (lall_snoc (p := validB) hlt)
      have HN := Mx.hid (fun h => (show parentsB l = false by unfold parentsB; rw [lall_not (p := validB) hlt h]; rfl))
      have HV := Mx.hid (fun wx => (valid_any l[i] wx (by omega)).mono fun e w' h => (show e = .returned (.bool (validB l[i])) ∧ St wx w' [] [] from h))
      clear c0 hz
      cases hb : validB l[i] with
      | false =>
        have HF := Mx.hid (HN.out hb)
        rw [hb] at HV
        clear hb
        generalize l[i] = s at *
        go_wp2_with (first | ((with_reducible show wpList _ _ _ _ _ _); refine wpl_want rfl ?_) | (go_at_call 58; refine (HV.out _).mono ?_; rintro e w2 ⟨rfl, hk⟩))
        go_ret
        exact ⟨by rw [HF.out]; rfl, (hs.call0 hk).bare⟩
      | true =>
        have HB := Mx.hid hb
        rw [hb] at HV
        clear hb
        by_cases h0 : i = 0
        · subst h0
          rw [Nat.add_zero] at c1
          have HR0 := Mx.hid (rises_one l)
          generalize hls : l[0] = s at *
          clear hls
          go_wp2_with (first | ((with_reducible show wpList _ _ _ _ _ _); refine wpl_want rfl ?_) | (go_at_call 58; refine (HV.out _).mono ?_; rintro e w2 ⟨rfl, hk⟩))
          case roundEnd => exact ⟨⟨1, by omega, by go_num, Mx.hid ⟨by rw [HS.out, HA.out.1, HB.out]; rfl, HR0.out⟩, hs.call0 hk⟩, by simp [intOf]; omega⟩
        · have hpos : 0 < i := by omega
          have hi1 : i - 1 < l.length := by omega
          obtain ⟨_, d0⟩ := HC.out (i - 1) hi1
          have HRS : Hid (∀ h, Op.bytesLess l[i - 1].toList l[i].toList = h → risesB (l.take (i + 1)) = (risesB (l.take i) && h) ∧ (h = false → parentsB l = false)) := Mx.hid (fun h hh => by
            obtain ⟨j, rfl⟩ : ∃ j, i = j + 1 := ⟨i - 1, by omega⟩
            simp only [Nat.add_sub_cancel] at hh
            exact ⟨by rw [rises_snoc l j hlt, hh], fun h0 => by unfold parentsB; rw [rises_not hlt (hh.trans h0)]; simp⟩)
          have HD := Mx.hid (fun (w' : World) (R : List Row) (Q : List Rd) (h : St w w' R Q) => h.keep d0)
          have k1 : IntKind.i64.wrap ((i : Int) - 1) = (i : Int) - 1 := IntWalk.i64_in _ (by omega)
          have k2 : ((i : Int) - 1).toNat = i - 1 := by omega
          have k3 : (0 : Int) ≤ (i : Int) - 1 := by omega
          clear d0 h0
          cases hless : Op.bytesLess l[i - 1].toList l[i].toList with
          | true =>
            have HR := Mx.hid (HRS.out _ hless)
            obtain ⟨q1, q2⟩ := less_le hless
            clear hless
            generalize l[i - 1] = t at *
            generalize l[i] = s at *
            go_wp2_with (first | ((with_reducible show wpList _ _ _ _ _ _); refine wpl_want rfl ?_) | (go_at_call 58; refine (HV.out _).mono ?_; rintro e w2 ⟨rfl, hk⟩; have hs2 := hs.call0 hk; have c2 := HD.out _ _ _ hs2))
            case roundEnd => exact ⟨⟨i + 1, by omega, by go_num, Mx.hid ⟨by rw [HS.out, HA.out.1, HB.out]; rfl, by rw [HR.out.1, HA.out.2]; rfl⟩, hs2⟩, by simp [intOf]; omega⟩
          | false =>
            have HF := Mx.hid ((HRS.out _ hless).2 rfl)
            have hq := less_not hless
            clear hless
            generalize l[i - 1] = t at *
            generalize l[i] = s at *
            rcases hq with q1 | ⟨q1, q2⟩
            · go_wp2_with (first | ((with_reducible show wpList _ _ _ _ _ _); refine wpl_want rfl ?_) | (go_at_call 58; refine (HV.out _).mono ?_; rintro e w2 ⟨rfl, hk⟩; have hs2 := hs.call0 hk; have c2 := HD.out _ _ _ hs2))
              go_ret
              exact ⟨by rw [HF.out]; rfl, hs2⟩
            · go_wp2_with (first | ((with_reducible show wpList _ _ _ _ _ _); refine wpl_want rfl ?_) | (go_at_call 58; refine (HV.out _).mono ?_; rintro e w2 ⟨rfl, hk⟩; have hs2 := hs.call0 hk; have c2 := HD.out _ _ _ hs2))
              go_ret
              exact ⟨by rw [HF.out]; rfl, hs2⟩
    · have HF := Mx.hid (show parentsB l = decide (l.length ≤ 2) by
        have h1 := HA.out.1
        have h2 := HA.out.2
        rw [List.take_of_length_le (by omega)] at h1 h2
        unfold parentsB; rw [h1, h2]; rfl)
      go_wp2_with fail
      go_ret
      exact ⟨by rw [HF.out, le_dec]; rfl, hs⟩
end Go.Proofs.YtloogjdafhjheaaGreat

namespace Go.Mx
open Go Go.RowKit Go.ChangeShapes Go.WideShapes Go.ChangeAt
variable {H : Type} {enc : TypeId × Value → H} {P : Program} {w : World}

theorem open_u8 {r : Reach} {b0 : Nat} {t : TypeId} {v : Value} {d : DataW H} {ps : List MemPlace} {sp : Nat → Bool} {held : Bool} {base : Nat} (ht : P.underlying t = some (.int .u8)) (hval : Value.okWide P w r b0 t v) (hd : DataW.Trod enc P w base sp held t v d ps) :
    ∃ x : UInt8, v = .int .u8 (x.toNat : Int) := by
  obtain ⟨a, rfl, _, _, wa⟩ := open_int ht hval hd
  have hx : 0 ≤ a ∧ a ≤ 255 := by simpa [Lit.wf, IntKind.min, IntKind.max, IntKind.signed, IntKind.bits] using wa
  refine ⟨UInt8.ofNat a.toNat, ?_⟩
  rw [UInt8.toNat_ofNat']
  congr 1
  omega

theorem open_bytes {r : Reach} {b0 : Nat} {t e : TypeId} {v : Value} {d : DataW H} {ps : List MemPlace} {held : Bool} (ht : P.underlying t = some (.slice e)) (he : P.underlying e = some (.int .u8)) (hc : P.cellsOf e = 1)
    (hval : Value.okWide P w r b0 t v) (hd : DataW.Trod enc P w 0 (fun _ => true) held t v d ps) : ∃ l : List UInt8, Sl w 1 v l.length (bs l) := by
  obtain ⟨a, len, cap, rfl⟩ := okWide_slice ht hval
  obtain ⟨fuel, hf⟩ := hd
  rcases open_ints ht he hc hf with ⟨hcs, _⟩ | ⟨x, l, c, zs, hcs, _, hl, hm, hz, _, hcell, hwz⟩
  · simp [Value.cells] at hcs
    obtain ⟨rfl, rfl, rfl⟩ := hcs
    exact ⟨[], Sl.nil w 1⟩
  · simp [Value.cells] at hcs
    obtain ⟨rfl, rfl, rfl⟩ := hcs
    simp only [if_true] at hz
    refine ⟨(zs.take len).map fun n => UInt8.ofNat n.toNat, some x, cap, ?_, ?_, hm, ?_, by simp, fun j u hu => ⟨x, rfl, ?_⟩⟩
    · rw [List.length_map, List.length_take, hz, Nat.min_eq_left hl]
    · rw [List.length_map, List.length_take, hz, Nat.min_eq_left hl]; exact hl
    · rw [bs_len, Nat.mul_one]
    · have hj : j < len := by
        have := (List.getElem?_eq_some_iff.1 hu).1
        rw [bs_len, List.length_map, List.length_take] at this
        omega
      rw [hcell j (by omega), ← hu]
      have hzj : j < zs.length := by omega
      have hw := hwz zs[j] (List.getElem_mem _)
      have hx : 0 ≤ zs[j] ∧ zs[j] ≤ 255 := by simpa [Lit.wf, IntKind.min, IntKind.max, IntKind.signed, IntKind.bits] using hw
      rw [bs_get (by rw [List.length_map, List.length_take]; omega)]
      simp only [List.getElem_map, List.getElem_take, UInt8.toNat_ofNat']
      congr 2
      rw [List.getD_eq_getElem?_getD, List.getElem?_eq_getElem hzj, Option.getD_some]
      omega

theorem open_texts {r : Reach} {b0 : Nat} {t e : TypeId} {v : Value} {d : DataW H} {ps : List MemPlace} {held : Bool} (ht : P.underlying t = some (.slice e)) (he : P.underlying e = some .string) (hc : P.cellsOf e = 1)
    (hval : Value.okWide P w r b0 t v) (hd : DataW.Trod enc P w 0 (fun _ => true) held t v d ps) : ∃ l : List ByteArray, Sl w 1 v l.length (ss l) ∧ ∀ s ∈ l, s.size ≤ maxLen := by
  obtain ⟨a, len, cap, rfl⟩ := okWide_slice ht hval
  obtain ⟨fuel, hf⟩ := hd
  rcases open_strings ht he hc hf with ⟨hcs, _⟩ | ⟨x, l, c, zs, hcs, _, hl, hm, hz, _, hcell, hwz⟩
  · simp [Value.cells] at hcs
    obtain ⟨rfl, rfl, rfl⟩ := hcs
    exact ⟨[], Sl.nil w 1, by simp⟩
  · simp [Value.cells] at hcs
    obtain ⟨rfl, rfl, rfl⟩ := hcs
    simp only [if_true] at hz
    refine ⟨zs.take len, ⟨some x, cap, ?_, ?_, hm, ?_, by simp, fun j u hu => ⟨x, rfl, ?_⟩⟩, fun s hs => hwz s (List.mem_of_mem_take hs)⟩
    · rw [List.length_take, hz, Nat.min_eq_left hl]
    · rw [List.length_take, hz, Nat.min_eq_left hl]; exact hl
    · rw [ss, List.length_map, Nat.mul_one]
    · have hj : j < len := by
        have := (List.getElem?_eq_some_iff.1 hu).1
        rw [ss, List.length_map, List.length_take] at this
        omega
      rw [hcell j (by omega), ← hu]
      have hzj : j < zs.length := by omega
      simp [ss, hj, hzj]

theorem open_i64s {r : Reach} {b0 : Nat} {t e : TypeId} {v : Value} {d : DataW H} {ps : List MemPlace} {held : Bool} (ht : P.underlying t = some (.slice e)) (he : P.underlying e = some (.int .i64)) (hc : P.cellsOf e = 1)
    (hval : Value.okWide P w r b0 t v) (hd : DataW.Trod enc P w 0 (fun _ => true) held t v d ps) : ∃ l : List Int, Sl w 1 v l.length (is l) ∧ ∀ n ∈ l, -9223372036854775808 ≤ n ∧ n ≤ 9223372036854775807 := by
  obtain ⟨a, len, cap, rfl⟩ := okWide_slice ht hval
  obtain ⟨fuel, hf⟩ := hd
  rcases open_ints ht he hc hf with ⟨hcs, _⟩ | ⟨x, l, c, zs, hcs, _, hl, hm, hz, _, hcell, hwz⟩
  · simp [Value.cells] at hcs
    obtain ⟨rfl, rfl, rfl⟩ := hcs
    exact ⟨[], Sl.nil w 1, by simp⟩
  · simp [Value.cells] at hcs
    obtain ⟨rfl, rfl, rfl⟩ := hcs
    simp only [if_true] at hz
    refine ⟨zs.take len, ⟨some x, cap, ?_, ?_, hm, ?_, by simp, fun j u hu => ⟨x, rfl, ?_⟩⟩, fun n hn => ?_⟩
    · rw [List.length_take, hz, Nat.min_eq_left hl]
    · rw [List.length_take, hz, Nat.min_eq_left hl]; exact hl
    · rw [is, List.length_map, Nat.mul_one]
    · have hj : j < len := by
        have := (List.getElem?_eq_some_iff.1 hu).1
        rw [is, List.length_map, List.length_take] at this
        omega
      rw [hcell j (by omega), ← hu]
      have hzj : j < zs.length := by omega
      simp [is, hj, hzj]
    · have := hwz n (List.mem_of_mem_take hn)
      simpa [Lit.wf, IntKind.min, IntKind.max, IntKind.signed, IntKind.bits] using this
end Go.Mx

namespace Go.Mx
open Go Go.RowKit Go.ChangeShapes Go.WideShapes Go.ChangeAt Go.Deep
variable {H : Type} {enc : TypeId × Value → H} {P : Program} {w : World}

/-- Rows of k cells one behind the other: the cell i of row j. -/
theorem flat_get {T : Type} {k : Nat} {f : T → List Value} (hk : ∀ t, (f t).length = k) : ∀ (l : List T) {j i : Nat}, i < k → ∀ (hj : j < l.length), (l.flatMap f)[j * k + i]? = (f l[j])[i]?
  | [], j, i, _, hj => by simp at hj
  | t :: l, 0, i, hi, _ => by
    rw [List.flatMap_cons, Nat.zero_mul, Nat.zero_add, List.getElem?_append_left (by rw [hk]; exact hi)]
    rfl
  | t :: l, j + 1, i, hi, hj => by
    rw [List.flatMap_cons, List.getElem?_append_right (by rw [hk, Nat.succ_mul]; omega), hk, show (j + 1) * k + i - k = j * k + i by rw [Nat.succ_mul]; omega, flat_get hk l hi (by simpa using hj)]
    rfl
theorem flat_len {T : Type} {k : Nat} {f : T → List Value} (hk : ∀ t, (f t).length = k) : ∀ l : List T, (l.flatMap f).length = l.length * k
  | [] => by simp
  | t :: l => by rw [List.flatMap_cons, List.length_append, hk, flat_len hk l, List.length_cons, Nat.succ_mul]; omega

/-- A slice of structs whose fields are of one cell each, by what each row's cells are. -/
theorem open_structs {T : Type} (row : T → List Value) (Ok : T → Prop) (d0 : T) {k : Nat} (hrow : ∀ t, (row t).length = k) (hk : 0 < k) {r : Reach} {b0 : Nat} {t e : TypeId} {fs : Array Field} {v : Value} {d : DataW H} {ps : List MemPlace} {held : Bool}
    (ht : P.underlying t = some (.slice e)) (he : P.underlying e = some (.struct fs)) (hone : oneCellFields P fs = true) (hC : P.cellsOf e = k) (hfs : fs.size = k)
    (dec : ∀ cs : List Value, cs.length = k → (∀ (i : Nat) (f : Field), fs[i]? = some f → ∃ m y c, cs[i]? = some c ∧ DataW.trod enc P w 0 (fun _ => true) held m f.type [c] = some y) → ∃ t, cs = row t ∧ Ok t)
    (hval : Value.okWide P w r b0 t v) (hd : DataW.Trod enc P w 0 (fun _ => true) held t v d ps) : ∃ l : List T, Sl w k v l.length (l.flatMap row) ∧ ∀ t ∈ l, Ok t := by
  obtain ⟨a, len, cap, rfl⟩ := okWide_slice ht hval
  obtain ⟨fuel, hf⟩ := hd
  rcases DataW.trod_slice ht hf with ⟨hcs, _⟩ | ⟨a', len', cap', elems, rest, n, _, hcs, _, _, hl, hm, hel, hsp, _⟩
  · simp [Value.cells] at hcs
    obtain ⟨rfl, rfl, rfl⟩ := hcs
    exact ⟨[], Sl.nil w k, by simp⟩
  · simp [Value.cells] at hcs
    obtain ⟨rfl, rfl, rfl⟩ := hcs
    have key : ∀ i : Nat, ∃ q : T, i < len → Ok q ∧ ∀ j u, (row q)[j]? = some u → w.cell? (a'.add (i * k + j)) = some u := by
      intro i
      by_cases hi : i < len
      · have h3 := hsp i hi
        rw [hC, List.getElem?_eq_getElem (by omega)] at h3
        obtain ⟨cs, hcs, htr⟩ := Option.bind_eq_some_iff.1 h3
        obtain ⟨_, hcl, hat⟩ := World.cells?_some hcs
        obtain ⟨xs, m, _, _, _, hlen, hg⟩ := DataW.trod_struct he htr
        obtain ⟨q, rfl, hq⟩ := dec cs hcl fun j f hf => by
          obtain ⟨oj, kj⟩ := hone_of hone j f hf
          have hj : j < fs.size := (Array.getElem?_eq_some_iff.1 hf).1
          have := hg j f hf
          rw [oj, kj] at this
          have hjc : j < cs.length := by omega
          have e1 : (cs.drop j).take 1 = [cs[j]] := by
            rw [List.drop_eq_getElem_cons hjc]; rfl
          have hx : j < xs.length := by omega
          rw [e1, List.getElem?_eq_getElem hx] at this
          exact ⟨m, _, cs[j], List.getElem?_eq_getElem hjc, this⟩
        refine ⟨q, fun _ => ⟨hq, fun j u hu => ?_⟩⟩
        have hj : j < (row q).length := (List.getElem?_eq_some_iff.1 hu).1
        have := hat j (by rw [hrow] at hj; omega)
        rw [Addr.add_add] at this
        rw [this, hu]
      · exact ⟨d0, fun h => absurd h hi⟩
    obtain ⟨f, hfk⟩ := Classical.skolem.1 key
    have hel1 : ((List.range len).map f).length = len := by simp
    refine ⟨(List.range len).map f, ⟨some a', cap, by rw [hel1], by rw [hel1]; exact hl, hm, by rw [flat_len hrow], by simp, fun j u hu => ⟨a', rfl, ?_⟩⟩, ?_⟩
    · have hj : j < len * k := by have := (List.getElem?_eq_some_iff.1 hu).1; rw [flat_len hrow, hel1] at this; exact this
      have hjk : j / k < len := (Nat.div_lt_iff_lt_mul hk).2 hj
      have hjm : j % k < k := Nat.mod_lt _ hk
      have e1 : j / k * k + j % k = j := by rw [Nat.mul_comm]; exact Nat.div_add_mod j k
      have := flat_get hrow ((List.range len).map f) hjm (j := j / k) (by rw [hel1]; exact hjk)
      rw [e1, hu] at this
      have h2 := (hfk (j / k) hjk).2 (j % k) u (by rw [this]; simp)
      rw [e1] at h2
      exact h2
    · intro t ht
      obtain ⟨i, hi, rfl⟩ := List.mem_map.1 ht
      exact (hfk i (List.mem_range.1 hi)).1
end Go.Mx
