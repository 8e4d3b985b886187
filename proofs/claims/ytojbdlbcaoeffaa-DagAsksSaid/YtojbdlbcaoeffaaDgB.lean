/- The two graphs side by side in memory. -/
import Derived.Test.YtojbdlbcaoeffaaDgE
import Derived.Test.YtojbdlbcaoeffaaDagF
namespace Go.Mx
open Go Go.RowKit
theorem St.rebase {wb w w1 : World} {R : List Row} {Q : List Rd} {B : Nat} (h : St wb w R Q) (hm : NoRow w B) (hB : B < wb.heap.size) (hg : w.grownBy w1 (some B)) :
    ∃ wb' : World, wb'.heap.size = wb.heap.size ∧ St wb' w1 R Q ∧ (∀ k, k < wb.heap.size → wb'.heap[k]? = w1.heap[k]?) ∧ wb'.os = w1.os ∧ wb'.tape = w1.tape ∧ wb'.output = w1.output := by
  have hsz : wb.heap.size ≤ w1.heap.size := Nat.le_trans h.size hg.size
  have hsz' : (w1.heap.extract 0 wb.heap.size).size = wb.heap.size := by simp; omega
  have hblk : ∀ k, k < wb.heap.size → (w1.heap.extract 0 wb.heap.size)[k]? = w1.heap[k]? := fun k hk => by
    rw [Array.getElem?_extract]
    simp
    omega
  refine ⟨{ w1 with heap := w1.heap.extract 0 wb.heap.size }, hsz', ⟨⟨rfl, rfl, rfl, by simp only [hsz']; exact hsz, fun k hk => ?_⟩, fun r hr => ?_, h.sep, fun q hq => ?_, h.apart⟩, hblk, rfl, rfl, rfl⟩
  · simp only [hsz'] at hk
    exact (hblk k hk).symm
  · simp only [hsz']
    refine (h.own r hr).kept hg ?_
    by_cases hn : r.v.ownBlock = none
    · exact .inl hn
    · refine .inr fun e => ?_
      have := ((h.own r hr).lt B e).1
      omega
  · exact (h.rd q hq).same fun hne c hc hlt => hg.block c hlt (by
      intro e
      have := Option.some.inj e
      subst this
      exact hm.apartQ (h.rd q hq) hne hc)
theorem St.addFresh {wb w wb' w1 : World} {R : List Row} {Q : List Rd} (h : St wb w R Q) (h1 : St wb' w1 R Q) {v : Value} {size n : Nat} {xs : List Value} (hv : Sl w1 size v n xs) (hf : ∀ b, v.ownBlock = some b → w.heap.size ≤ b) : St wb' w1 R (⟨v, size, n, xs⟩ :: Q) where
  below := h1.below
  own := h1.own
  sep := h1.sep
  rd q hq := by
    rcases List.mem_cons.1 hq with rfl | hq
    · exact hv
    · exact h1.rd q hq
  apart q hq r hr hne b hb := by
    rcases List.mem_cons.1 hq with rfl | hq
    · intro he
      have h2 := hf b he
      have h3 := ((h.own r hr).lt b hb).2
      omega
    · exact h1.apart q hq r hr hne b hb
theorem Mp.of_block {w w' : World} {b : Nat} {l : List Ent} (h : Mp w b l) (e : w'.heap[b]? = w.heap[b]?) : Mp w' b l := by
  unfold Mp at *
  rw [e]
  exact h
end Go.Mx
namespace Go.Proofs.Ytojbdlbcaoeffaa
open Go.RowKit Go.Mx
/-- From the law's world wl to w: the program's graph at g, the document's at x. -/
structure BW (wl w : World) (b0 g B x : Nat) (vi vp vs : Value) (G : List Gd) (PV : List Value) (Q : List Rd) (wb : World) : Prop where
  sz : wb.heap.size = b0
  base : St wl wb [] []
  st : St wb w (xR x vi vp vs (G.map (·.2)) PV) Q
  gc : (⟨.slice (some ⟨g, 0, none⟩) 1 1, 1, 1, [.map (some B)]⟩ : Rd) ∈ Q
  gq : ∀ q ∈ G, (⟨q.1, 1, q.2.2.1.length, ss q.2.2.1⟩ : Rd) ∈ Q
  pq : ∀ (j : Nat) (hj : j < G.length), ∃ pv, PV[j]? = some pv ∧ (⟨pv, 1, G[j].2.2.1.length, ss G[j].2.2.1⟩ : Rd) ∈ Q
  mp : Mp w B (G.map gent)
  hB : B < b0
  lB : wl.heap.size ≤ B
  few : ∀ q ∈ G, q.2.2.1.length ≤ 1000000
  len : G.length ≤ 2000
  wf : WF (G.map (·.2))
  sb : StB (G.map (·.2))
section
variable {wl w w' : World} {b0 g B x : Nat} {vi vp vs : Value} {G : List Gd} {PV : List Value} {Q : List Rd} {wb : World}
theorem BW.law (h : BW wl w b0 g B x vi vp vs G PV Q wb) : St wl w [] [] := h.base.call0 h.st.bare
theorem BW.gg (h : BW wl w b0 g B x vi vp vs G PV Q wb) : GG w g B G :=
  ⟨⟨by have := Sl.cellAt (h.st.rd _ h.gc : Sl w 1 (.slice (some ⟨g, 0, none⟩) 1 1) 1 [.map (some B)]) (j := 0) rfl; simpa using this, h.mp, fun q hq => h.st.rd _ (h.gq q hq), h.few, h.len⟩, h.wf, h.sb⟩
theorem BW.xg (h : BW wl w b0 g B x vi vp vs G PV Q wb) : XG w x vi vp vs (G.map (·.2)) PV where
  c0 := h.st.rcell (List.mem_cons_of_mem _ (List.mem_cons_of_mem _ (List.mem_cons_of_mem _ (List.mem_cons_self ..)))) (j := 0) rfl
  c1 := h.st.rcell (List.mem_cons_of_mem _ (List.mem_cons_of_mem _ (List.mem_cons_of_mem _ (List.mem_cons_self ..)))) (j := 1) rfl
  c2 := h.st.rcell (List.mem_cons_of_mem _ (List.mem_cons_of_mem _ (List.mem_cons_of_mem _ (List.mem_cons_self ..)))) (j := 2) rfl
  si := h.st.sl0
  sp := h.st.sl1
  st := h.st.sl2
  sl j hj := by
    obtain ⟨pv, h1, h2⟩ := h.pq j (by simpa using hj)
    refine ⟨pv, h1, ?_⟩
    have := h.st.rd _ h2
    simpa using this
theorem BW.keep (h : BW wl w b0 g B x vi vp vs G PV Q wb) (hs : St w w' [] []) : BW wl w' b0 g B x vi vp vs G PV Q wb := { h with st := h.st.call0 hs, mp := h.mp.grow hs.below }
theorem BW.addQ (h : BW wl w b0 g B x vi vp vs G PV Q wb) {v : Value} {size n : Nat} {xs : List Value} (hv : Sl wl size v n xs) : BW wl w b0 g B x vi vp vs G PV (⟨v, size, n, xs⟩ :: Q) wb :=
  { h with
    st := h.st.addQ (q := ⟨v, size, n, xs⟩) (h.base.old hv)
    gc := List.mem_cons_of_mem _ h.gc
    gq := fun q hq => List.mem_cons_of_mem _ (h.gq q hq)
    pq := fun j hj => let ⟨pv, h1, h2⟩ := h.pq j hj; ⟨pv, h1, List.mem_cons_of_mem _ h2⟩ }
/-- The program's graph has grown by one. -/
theorem BW.grow {w1 : World} (h : BW wl w b0 g B x vi vp vs G PV Q wb) {v : Value} {n : Nd} (hg : w.grownBy w1 (some B)) (hr : GR w1 g B (G ++ [(v, n)])) (hf : ∀ b, v.ownBlock = some b → w.heap.size ≤ b) :
    ∃ wb', wb'.heap.size = b0 ∧ St wl wb' [] [] ∧ St wb' w1 (xR x vi vp vs (G.map (·.2)) PV) (⟨v, 1, n.2.1.length, ss n.2.1⟩ :: Q) ∧ Mp wb' B ((G ++ [(v, n)]).map gent) := by
  obtain ⟨wb', h1, h2, h3, h4, h5, h6⟩ := h.st.rebase h.mp.noRow (by rw [h.sz]; exact h.hB) hg
  refine ⟨wb', h1.trans h.sz, ?_, h.st.addFresh h2 (hr.sl (v, n) (by simp)) hf, hr.mp.of_block (h3 B (by rw [h.sz]; exact h.hB))⟩
  have hb := h.base.below
  refine ⟨⟨h4.trans (hg.os.trans (h.st.below.os.trans hb.os)), h5.trans (hg.tape.trans (h.st.below.tape.trans hb.tape)), h6.trans (hg.output.trans (h.st.below.output.trans hb.output)), by rw [h1]; exact hb.size, fun k hk => ?_⟩, by simp, by simp, by simp, by simp⟩
  have hk0 : k < wb.heap.size := Nat.lt_of_lt_of_le hk hb.size
  rw [h3 k hk0, hg.block k (Nat.lt_of_lt_of_le hk0 h.st.size) ?_, h.st.below.block k hk0, hb.block k hk]
  intro e
  have := Option.some.inj e
  have := h.lB
  omega
/-- The document's graph was asked to grow; the program's stays. -/
theorem BW.after {vi' vp' vs' : Value} (h : BW wl w b0 g B x vi vp vs G PV Q wb) (hs : St wb w' (xR x vi' vp' vs' (G.map (·.2)) PV) Q) : BW wl w' b0 g B x vi' vp' vs' G PV Q wb :=
  { h with
    st := hs
    mp := (h.mp.of_block (h.st.below.block B (by rw [h.sz]; exact h.hB)).symm).grow hs.below }
/-- Both have grown by one. -/
theorem BW.both {w1 wb' : World} {v u : Value} {n : Nd} {vi' vp' vs' : Value} (h : BW wl w b0 g B x vi vp vs G PV Q wb) (hpl : PV.length = G.length) (hsz : wb'.heap.size = b0) (hbase : St wl wb' [] []) (hmp : Mp wb' B ((G ++ [(v, n)]).map gent)) (hr : GR w1 g B (G ++ [(v, n)]))
    (hs : St wb' w' (xR x vi' vp' vs' (G.map (·.2) ++ [n]) (PV ++ [u])) (⟨u, 1, n.2.1.length, ss n.2.1⟩ :: ⟨v, 1, n.2.1.length, ss n.2.1⟩ :: Q)) (hwf : WF (G.map (·.2) ++ [n])) (hsb : StB (G.map (·.2) ++ [n])) :
    BW wl w' b0 g B x vi' vp' vs' (G ++ [(v, n)]) (PV ++ [u]) (⟨u, 1, n.2.1.length, ss n.2.1⟩ :: ⟨v, 1, n.2.1.length, ss n.2.1⟩ :: Q) wb' where
  sz := hsz
  base := hbase
  st := by rw [List.map_append]; exact hs
  gc := List.mem_cons_of_mem _ (List.mem_cons_of_mem _ h.gc)
  gq q hq := by
    rcases List.mem_append.1 hq with hq | hq
    · exact List.mem_cons_of_mem _ (List.mem_cons_of_mem _ (h.gq q hq))
    · rw [List.mem_singleton.1 hq]
      exact List.mem_cons_of_mem _ (List.mem_cons_self ..)
  pq j hj := by
    by_cases hlt : j < G.length
    · obtain ⟨pv, h1, h2⟩ := h.pq j hlt
      refine ⟨pv, by rw [List.getElem?_append_left (by omega)]; exact h1, ?_⟩
      rw [List.getElem_append_left hlt]
      exact List.mem_cons_of_mem _ (List.mem_cons_of_mem _ h2)
    · have hj2 : j = G.length := by simp at hj; omega
      subst hj2
      refine ⟨u, by rw [List.getElem?_append_right (by omega), hpl, Nat.sub_self]; rfl, ?_⟩
      rw [List.getElem_append_right (Nat.le_refl _)]
      simp only [Nat.sub_self, List.getElem_cons_zero]
      exact List.mem_cons_self ..
  mp := hmp.grow (by have := hs.below; exact this)
  hB := h.hB
  lB := h.lB
  few := hr.few
  len := hr.len
  wf := by rw [List.map_append]; exact hwf
  sb := by rw [List.map_append]; exact hsb
theorem BW.pl (h : BW wl w b0 g B x vi vp vs G PV Q wb) : PV.length = G.length := by
  have := h.st.sl1.len
  simpa using this
/-- What a callee has made is read on. -/
theorem BW.addF {r : Row} (h : BW wl w b0 g B x vi vp vs G PV Q wb) (hs : St w w' [r] []) : BW wl w' b0 g B x vi vp vs G PV (⟨r.v, r.size, r.n, r.xs⟩ :: Q) wb :=
  { h.keep hs.bare with
    st := h.st.addFresh (h.st.call0 hs.bare) (hs.sl (List.mem_cons_self ..)) fun k hk => ((hs.own _ (List.mem_cons_self ..)).lt k hk).1
    gc := List.mem_cons_of_mem _ h.gc
    gq := fun q hq => List.mem_cons_of_mem _ (h.gq q hq)
    pq := fun j hj => let ⟨pv, h1, h2⟩ := h.pq j hj; ⟨pv, h1, List.mem_cons_of_mem _ h2⟩ }
def BNext (wl w' : World) (b0 g B x : Nat) (G : List Gd) (Q : List Rd) : Prop :=
  ∃ G' PV' vi' vp' vs' Q' wb', G'.length ≤ G.length + 1 ∧ (∀ q ∈ Q, q ∈ Q') ∧ BW wl w' b0 g B x vi' vp' vs' G' PV' Q' wb'
/-- The program's graph was asked to grow; so is the document's. -/
theorem BW.step {e : Ending} {id : ByteArray} {v : Value} {ps : List ByteArray} {s : Int} (h : BW wl w b0 g B x vi vp vs G PV Q wb) (hv : (⟨v, 1, ps.length, ss ps⟩ : Rd) ∈ Q) (hl : ps.length ≤ 1000000) (hs2 : s ≤ 9223372036854775807) (hpost : AddPost2 g B G id ps s w e w') :
    Calls Try.prog 27 #[.pointer (some ⟨x, 0, none⟩), .string id, v, .int .i64 s] w' fun e' w'' => e' = .returned (.int .i64 (addE (G.map (·.2)) id ps s)) ∧ BNext wl w'' b0 g B x G Q := by
  obtain ⟨_, hgr, _, hp⟩ := hpost
  rcases hp with ⟨h0, hr, hs⟩ | ⟨h0, u, hr, hf⟩
  · have h1 := h.keep hs
    refine (xadd_any x vi vp vs _ PV id v ps s Q h1.st hv hl).mono fun e' w'' he => ?_
    obtain ⟨rfl, h2⟩ := he
    refine ⟨rfl, ?_⟩
    rcases h2 with ⟨_, h3⟩ | ⟨h3, _⟩
    · exact ⟨G, PV, vi, vp, vs, Q, wb, by omega, fun q hq => hq, h1.after h3⟩
    · exact absurd h3 h0
  · obtain ⟨wb', k1, k2, k3, k4⟩ := h.grow hgr hr hf
    refine (xadd_any x vi vp vs _ PV id v ps s _ k3 (List.mem_cons_of_mem _ hv) hl).mono fun e' w'' he => ?_
    obtain ⟨rfl, h2⟩ := he
    refine ⟨rfl, ?_⟩
    rcases h2 with ⟨h3, _⟩ | ⟨_, vi', vp', vs', y, h3⟩
    · exact absurd h0 h3
    · exact ⟨_, _, vi', vp', vs', _, wb', by simp, fun q hq => List.mem_cons_of_mem _ (List.mem_cons_of_mem _ hq), h.both h.pl k1 k2 k4 hr h3 (h.wf.add h0) (h.sb.add (by have := (addE_ok h0).2.2.2; show -1 ≤ s; omega) hs2)⟩
end
end Go.Proofs.Ytojbdlbcaoeffaa
