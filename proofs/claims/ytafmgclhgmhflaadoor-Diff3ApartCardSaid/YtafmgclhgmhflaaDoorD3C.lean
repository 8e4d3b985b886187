/- Chunks in memory. -/
import Derived.Test.YtafmgclhgmhflaaDoorD3P
import Derived.Test.YtafmgclhgmhflaaDoorLists
namespace Go.Mx
open Go Go.RowKit

structure V3 where
  o : Value
  a : Value
  b : Value
/-- Chunks as cells: the kind, and the three slices. -/
def ckc (vs : List V3) (cs : List Ck) : List Value := (List.zipWith (fun (v : V3) (c : Ck) => [Value.int .i64 (c.k : Int), v.o, v.a, v.b]) vs cs).flatten
def rdc (vs : List V3) (cs : List Ck) : List Rd := (List.zipWith (fun (v : V3) (c : Ck) => [⟨v.o, 1, c.o.length, ss c.o⟩, ⟨v.a, 1, c.a.length, ss c.a⟩, ⟨v.b, 1, c.b.length, ss c.b⟩]) vs cs).flatten
theorem ckc_len : ∀ (vs : List V3) (cs : List Ck), vs.length = cs.length → (ckc vs cs).length = cs.length * 4
  | [], [], _ => rfl
  | v :: vs, c :: cs, h => by
    have := ckc_len vs cs (by simpa using h)
    simp only [ckc, List.zipWith_cons_cons, List.flatten_cons, List.length_append, List.length_cons, List.length_nil] at *
    omega
theorem ckc_snoc (vs : List V3) (cs : List Ck) (v : V3) (c : Ck) (h : vs.length = cs.length) : ckc (vs ++ [v]) (cs ++ [c]) = ckc vs cs ++ [Value.int .i64 (c.k : Int), v.o, v.a, v.b] := by
  unfold ckc
  rw [List.zipWith_append h]
  simp
theorem rdc_snoc (vs : List V3) (cs : List Ck) (v : V3) (c : Ck) (h : vs.length = cs.length) : rdc (vs ++ [v]) (cs ++ [c]) = rdc vs cs ++ [⟨v.o, 1, c.o.length, ss c.o⟩, ⟨v.a, 1, c.a.length, ss c.a⟩, ⟨v.b, 1, c.b.length, ss c.b⟩] := by
  unfold rdc
  rw [List.zipWith_append h]
  simp
theorem ckc_get : ∀ {vs : List V3} {cs : List Ck} {k : Nat} (h : vs.length = cs.length) (hk : k < cs.length),
    (ckc vs cs)[4 * k]? = some (.int .i64 (cs[k].k : Int)) ∧ (ckc vs cs)[4 * k + 1]? = some (vs[k]'(by omega)).o ∧ (ckc vs cs)[4 * k + 2]? = some (vs[k]'(by omega)).a ∧ (ckc vs cs)[4 * k + 3]? = some (vs[k]'(by omega)).b
  | _, [], _, _, hk => by simp at hk
  | [], c :: cs, _, h, _ => by simp at h
  | v :: vs, c :: cs, 0, _, _ => ⟨rfl, rfl, rfl, rfl⟩
  | v :: vs, c :: cs, k + 1, h, hk => by
    have := ckc_get (vs := vs) (cs := cs) (k := k) (by simpa using h) (by simpa using hk)
    show (_ :: _ :: _ :: _ :: ckc vs cs)[4 * k + 1 + 1 + 1 + 1]? = _ ∧ (_ :: _ :: _ :: _ :: ckc vs cs)[4 * k + 1 + 1 + 1 + 1 + 1]? = _ ∧ (_ :: _ :: _ :: _ :: ckc vs cs)[4 * k + 1 + 1 + 1 + 1 + 1 + 1]? = _ ∧ (_ :: _ :: _ :: _ :: ckc vs cs)[4 * k + 1 + 1 + 1 + 1 + 1 + 1 + 1]? = _
    simpa using this
theorem rdc_get : ∀ {vs : List V3} {cs : List Ck} {k : Nat} (h : vs.length = cs.length) (hk : k < cs.length),
    (⟨(vs[k]'(by omega)).o, 1, cs[k].o.length, ss cs[k].o⟩ : Rd) ∈ rdc vs cs ∧ (⟨(vs[k]'(by omega)).a, 1, cs[k].a.length, ss cs[k].a⟩ : Rd) ∈ rdc vs cs ∧ (⟨(vs[k]'(by omega)).b, 1, cs[k].b.length, ss cs[k].b⟩ : Rd) ∈ rdc vs cs
  | _, [], _, _, hk => by simp at hk
  | [], c :: cs, _, h, _ => by simp at h
  | v :: vs, c :: cs, 0, _, _ => by simp [rdc]
  | v :: vs, c :: cs, k + 1, h, hk => by
    obtain ⟨h1, h2, h3⟩ := rdc_get (vs := vs) (cs := cs) (k := k) (by simpa using h) (by simpa using hk)
    have e : rdc (v :: vs) (c :: cs) = [⟨v.o, 1, c.o.length, ss c.o⟩, ⟨v.a, 1, c.a.length, ss c.a⟩, ⟨v.b, 1, c.b.length, ss c.b⟩] ++ rdc vs cs := by simp [rdc]
    rw [e]
    exact ⟨List.mem_append_right _ h1, List.mem_append_right _ h2, List.mem_append_right _ h3⟩

/-- v reads as the chunks cs. -/
def CK (w : World) (v : Value) (cs : List Ck) : Prop :=
  ∃ vs : List V3, vs.length = cs.length ∧ Sl w 4 v cs.length (ckc vs cs) ∧ ∀ q ∈ rdc vs cs, Sl w q.size q.v q.n q.xs
theorem CK.old {w0 w : World} {R : List Row} {Q : List Rd} {v : Value} {cs : List Ck} (h : St w0 w R Q) (hl : CK w0 v cs) : CK w v cs := by
  obtain ⟨vs, h1, h2, h3⟩ := hl
  exact ⟨vs, h1, h.old h2, fun q hq => h.old (h3 q hq)⟩
theorem CK.ofSt {w0 w : World} {v : Value} {e : TypeId} {vs : List V3} {cs : List Ck} {R : List Row} {Q : List Rd} (h : St w0 w (⟨v, e, 4, cs.length, ckc vs cs⟩ :: R) Q) (hQ : ∀ q ∈ rdc vs cs, q ∈ Q) (hl : vs.length = cs.length) : CK w v cs :=
  ⟨vs, hl, h.sl0, fun q hq => h.rd q (hQ q hq)⟩
theorem CK.nil (w : World) : CK w (.slice none 0 0) [] := ⟨[], rfl, Sl.nil w 4, by simp [rdc]⟩
theorem CK.at {w : World} {v : Value} {cs : List Ck} (h : CK w v cs) : ∃ ao cap blk off, ∃ us : Nat → V3, v = .slice ao cs.length cap ∧ cs.length ≤ cap ∧ cap ≤ 9223372036854775807 ∧
    (∀ k (hk : k < cs.length), ao = some ⟨blk, off, none⟩ ∧ w.cell? ⟨blk, off + k * 4, none⟩ = some (.int .i64 (cs[k].k : Int)) ∧ w.cell? ⟨blk, off + k * 4 + 1, none⟩ = some (us k).o ∧ w.cell? ⟨blk, off + k * 4 + 2, none⟩ = some (us k).a ∧ w.cell? ⟨blk, off + k * 4 + 3, none⟩ = some (us k).b) ∧
    ∀ k (hk : k < cs.length), Sl w 1 (us k).o cs[k].o.length (ss cs[k].o) ∧ Sl w 1 (us k).a cs[k].a.length (ss cs[k].a) ∧ Sl w 1 (us k).b cs[k].b.length (ss cs[k].b) := by
  obtain ⟨vs, h1, h2, h3⟩ := h
  obtain ⟨ao, cap, rfl, g1, g2, g3, _, g4⟩ := h2.form
  unfold maxLen at g2
  have hus : ∀ k (hk : k < cs.length), vs.getD k ⟨.bool false, .bool false, .bool false⟩ = vs[k]'(by omega) := fun k hk => by
    simp [List.getD_eq_getElem?_getD, List.getElem?_eq_getElem (show k < vs.length by omega)]
  have hq : ∀ k (hk : k < cs.length), Sl w 1 (vs.getD k ⟨.bool false, .bool false, .bool false⟩).o cs[k].o.length (ss cs[k].o) ∧ Sl w 1 (vs.getD k ⟨.bool false, .bool false, .bool false⟩).a cs[k].a.length (ss cs[k].a) ∧ Sl w 1 (vs.getD k ⟨.bool false, .bool false, .bool false⟩).b cs[k].b.length (ss cs[k].b) := fun k hk => by
    obtain ⟨r1, r2, r3⟩ := rdc_get h1 hk
    rw [hus k hk]
    exact ⟨h3 _ r1, h3 _ r2, h3 _ r3⟩
  by_cases hnil : cs = []
  · subst hnil; exact ⟨ao, cap, 0, 0, _, rfl, g1, by omega, fun k hk => by simp at hk, hq⟩
  · have hlen := ckc_len vs cs h1
    have hne : ckc vs cs ≠ [] := by intro h; rw [h] at hlen; simp at hlen; exact hnil (List.eq_nil_of_length_eq_zero (by omega))
    obtain ⟨b, off, rfl, hc⟩ := g4 hne
    refine ⟨_, cap, b, off, _, rfl, g1, by omega, fun k hk => ?_, hq⟩
    obtain ⟨e1, e2, e3, e4⟩ := ckc_get h1 hk
    have := hus k hk
    rw [this]
    have m0 : off + k * 4 = off + 4 * k := by omega
    refine ⟨rfl, ?_, ?_, ?_, ?_⟩
    · rw [m0]; exact hc _ _ e1
    · rw [m0, Nat.add_assoc]; exact hc _ _ e2
    · rw [m0, Nat.add_assoc]; exact hc _ _ e3
    · rw [m0, Nat.add_assoc]; exact hc _ _ e4
theorem St.pushC {w0 w : World} {v x y z : Value} {e : TypeId} {vs : List V3} {cs : List Ck} {R : List Row} {Q : List Rd} (c : Ck) (h : St w0 w (⟨v, e, 4, cs.length + 1, ckc vs cs ++ [.int .i64 (c.k : Int), x, y, z]⟩ :: R) (⟨z, 1, c.b.length, ss c.b⟩ :: ⟨y, 1, c.a.length, ss c.a⟩ :: ⟨x, 1, c.o.length, ss c.o⟩ :: Q)) (hQ : ∀ q ∈ rdc vs cs, q ∈ Q) (hl : vs.length = cs.length) :
    St w0 w (⟨v, e, 4, (cs ++ [c]).length, ckc (vs ++ [⟨x, y, z⟩]) (cs ++ [c])⟩ :: R) (rdc (vs ++ [⟨x, y, z⟩]) (cs ++ [c])) ∧ (vs ++ [(⟨x, y, z⟩ : V3)]).length = (cs ++ [c]).length := by
  refine ⟨(h.cast (by simp) (by rw [ckc_snoc _ _ _ _ hl])).sub (List.Sublist.refl _) fun q hq => ?_, by simp [hl]⟩
  rw [rdc_snoc _ _ _ _ hl] at hq
  simp only [List.mem_append, List.mem_cons, List.not_mem_nil, or_false] at hq ⊢
  rcases hq with hq | hq | hq | hq
  · exact .inr (.inr (.inr (hQ q hq)))
  · exact .inr (.inr (.inl hq))
  · exact .inr (.inl hq)
  · exact .inl hq
end Go.Mx
