/- slices.Compact, wire.Unique, wire.Merge. -/
import Derived.Test.YtojbdlbcaoeffaaSrtB
import Derived.Test.YtojbdlbcaoeffaaShelf
namespace Go.Mx
open Go Go.RowKit

theorem St.unfrozen {w0 w : World} {R : List Row} {Q : List Rd} {g n cap : Nat} {e : TypeId} {size : Nat} {xs : List Value} (h : St w0 w (⟨.slice (some ⟨g, 0, none⟩) n cap, e, size, n, xs⟩ :: R) Q) (j : Nat) (hj : j < xs.length) : w.frozen? ⟨g, j, none⟩ = false := by
  have ho := h.own _ (List.mem_cons_self ..)
  rcases ho.2 with ⟨h2, _⟩ | ⟨g', cap', cur, fr, hv, hb, hg, hfr, hn, hm, hs, htake⟩
  · cases h2
  · obtain ⟨rfl, rfl⟩ : g = g' ∧ cap = cap' := by simp at hv; exact hv
    have hlen := ho.1
    simp only [] at hlen hs hg hn
    have hxl : xs.length ≤ cur.size := by rw [hlen, hs]; exact Nat.mul_le_mul_right _ hn
    have := hfr j (by omega)
    simp only [World.frozen?, hg]
    simpa using this

/-- Cells laid from the row's head on. -/
theorem St.laid {P : Program} {w0 w : World} {R : List Row} {Q : List Rd} {g n cap : Nat} {e : TypeId} {size : Nat} {xs : List Value} (h : St w0 w (⟨.slice (some ⟨g, 0, none⟩) n cap, e, size, n, xs⟩ :: R) Q) (cs : List Value) (hj : cs.length = xs.length) (h1 : ∀ u ∈ cs, u.oneCell' = true) :
    St w0 (w.setCells g 0 cs) (⟨.slice (some ⟨g, 0, none⟩) n cap, e, size, n, cs⟩ :: R) Q := by
  obtain ⟨w', hr, hs⟩ := h.store (P := P) 0 cs (by omega) h1
  have h2 := run_storeCells_cells (P := P) g 0 cs 0 w (fun j hjl => by
      obtain ⟨u, hu⟩ : ∃ u, xs[j]? = some u := ⟨xs[j]'(by omega), List.getElem?_eq_getElem (by omega)⟩
      have := h.cell hu
      simp [this]) (fun j hjl => by have := h.unfrozen j (by omega); simpa using this) h1
  rw [hr] at h2
  have e : w' = w.setCells g 0 cs := by injection h2
  rw [← e]
  have hx : xs.take 0 ++ cs ++ xs.drop (0 + cs.length) = cs := by rw [List.take_zero, List.nil_append, Nat.zero_add, hj, List.drop_length, List.append_nil]
  rw [hx] at hs
  exact hs

/-- The row cut short. -/
theorem St.short {w0 w : World} {R : List Row} {Q : List Rd} {g n cap : Nat} {e : TypeId} {size : Nat} {xs : List Value} (h : St w0 w (⟨.slice (some ⟨g, 0, none⟩) n cap, e, size, n, xs⟩ :: R) Q) (m : Nat) (hm : m ≤ n) :
    St w0 w (⟨.slice (some ⟨g, 0, none⟩) m cap, e, size, m, xs.take (m * size)⟩ :: R) Q := by
  have ho := h.own _ (List.mem_cons_self ..)
  refine h.turn (r' := ⟨.slice (some ⟨g, 0, none⟩) m cap, e, size, m, xs.take (m * size)⟩) ?_ ⟨rfl, rfl, rfl, Nat.le_refl _, fun _ _ _ => rfl⟩ fun b hb => .inl hb
  rcases ho.2 with ⟨h2, _⟩ | ⟨g', cap', cur, fr, hv, hb, hg, hfr, hn, hc, hs, htake⟩
  · cases h2
  · obtain ⟨rfl, rfl⟩ : g = g' ∧ cap = cap' := by simp at hv; exact hv
    have hlen := ho.1
    simp only [] at hlen hs hg hn htake
    have hle : m * size ≤ n * size := Nat.mul_le_mul_right _ hm
    refine ⟨by simp only []; rw [List.length_take, hlen, Nat.min_eq_left hle], .inr ⟨g, cap, cur, fr, rfl, hb, hg, hfr, by simp only []; omega, hc, hs, ?_⟩⟩
    simp only []
    rw [← htake, List.take_take, Nat.min_eq_left hle]

/-- What slices.Compact makes of a list. -/
def compL (l : List ByteArray) : List ByteArray := (Lib.compact (l.map fun s : ByteArray => s.data.toList)).map str
theorem compL_sort (l : List ByteArray) : compL (sortL l) = uniqL l := rfl
theorem compL_len (l : List ByteArray) : (compL l).length ≤ l.length := by
  unfold compL
  rw [List.length_map]
  have := Lib.compact_length_le (l.map fun s : ByteArray => s.data.toList)
  simpa using this
theorem uniqL_len (l : List ByteArray) : (uniqL l).length ≤ l.length := by have := compL_len (sortL l); rwa [compL_sort, sortL_len] at this
theorem strsOf_eq (l : List ByteArray) : Lib.strsOf (fun i => l.getD i ByteArray.empty) l.length = l.map fun s : ByteArray => s.data.toList := by
  apply List.ext_getElem
  · simp [Lib.strsOf]
  · intro i h1 h2
    have : i < l.length := by simpa using h2
    simp [Lib.strsOf, this]
end Go.Mx
namespace Go.Proofs.Ytojbdlbcaoeffaa
open Go.RowKit Go.Mx

theorem compact_any {w0 : World} {v : Value} {l : List ByteArray} {w : World} {R : List Row} {Q : List Rd} (hs : St w0 w (⟨v, 9, 1, l.length, ss l⟩ :: R) Q) :
    Calls Try.prog 47 #[v] w fun e w' => ∃ v', e = .returned v' ∧ St w0 w' (⟨v', 9, 1, (compL l).length, ss (compL l)⟩ :: R) Q := by
  by_cases hn : l.length = 0
  · obtain rfl := List.eq_nil_of_length_eq_zero hn
    obtain ⟨ao, cap, blk, off, rfl, h1, h2, _, hc⟩ := hs.sl0.txt
    refine (Try.slices_Compact_string_empty ao cap w).mono ?_
    rintro e w' ⟨rfl, rfl⟩
    exact ⟨_, rfl, hs⟩
  · obtain ⟨g, cap, rfl, hb, _, h1, h2⟩ := hs.form0 hn
    refine (Try.slices_Compact_string_cells g 0 l.length cap (fun i => l.getD i ByteArray.empty) w (by omega) h1 (fun i hi => ?_) (fun j hj => ?_)).mono ?_
    · have := hs.cell (ss_get hi)
      rw [Nat.zero_add, this]
      simp [hi]
    · rw [Nat.zero_add]
      exact hs.unfrozen j (by rw [ss_len]; exact hj)
    · rintro e w' ⟨rfl, q, rfl⟩
      refine ⟨_, rfl, ?_⟩
      rw [strsOf_eq]
      have hle := compL_len l
      have e1 : (compL l).length = (Lib.compact (l.map fun s : ByteArray => s.data.toList)).length := by simp [compL]
      have hl := (hs.drewN q).laid (P := Try.prog) ((Lib.compact (l.map fun s : ByteArray => s.data.toList) ++ List.replicate (l.length - (Lib.compact (l.map fun s : ByteArray => s.data.toList)).length) []).map Go.Proofs.encStr) (by rw [ss_len]; simp; omega) (by
        intro u hu
        obtain ⟨_, _, rfl⟩ := List.mem_map.1 hu
        rfl)
      have h3 := hl.short (compL l).length hle
      rw [e1] at h3
      refine h3.cast e1.symm ?_
      rw [Nat.mul_one, List.map_append, List.take_append_of_le_length (by simp), List.take_of_length_le (by simp)]
      simp [ss, compL]
      intro a _
      rfl

theorem unique_any (v : Value) (l : List ByteArray) (w : World) (hv : Sl w 1 v l.length (ss l)) (hl : l.length ≤ 8796093022208) :
    Calls Try.prog 39 #[v] w fun e w' => ∃ v', e = .returned v' ∧ St w w' [⟨v', 9, 1, (uniqL l).length, ss (uniqL l)⟩] [] := by
  have HS := hid (sort_any l.length v l w (Nat.le_refl _) hv hl)
  clear hv
  have hn := sortL_len l
  go_enter Try.func39, Try.ntmps39
  go_wp2_with (first
    | (go_at_call 46; refine HS.out.mono ?_; rintro e w1 ⟨v1, rfl, hs1⟩; replace hs1 := hs1.cast hn.symm rfl)
    | (go_at_call 47; refine (compact_any hs1).mono ?_; rintro e w2 ⟨v2, rfl, hs2⟩))
  go_ret
  exact ⟨_, rfl, hs2⟩
end Go.Proofs.Ytojbdlbcaoeffaa
