/- What both graphs answer, in one form each. -/
import Derived.Test.YtojbdlbcaoeffaaDgR
import Derived.Test.YtojbdlbcaoeffaaDagR
namespace Go.Mx
open Go Go.RowKit
/-- A list of names and an error. -/
def UAns (P : List ByteArray → Int → Prop) (w : World) (e : Ending) (w' : World) : Prop := ∃ v N ε, e = .returned (.tuple #[v, .int .i64 ε]) ∧ St w w' [⟨v, 9, 1, N.length, ss N⟩] [] ∧ P N ε
def AncU (L : List Nd) (ids N : List ByteArray) (ε : Int) : Prop := (ε = 0 ∧ Clo L ids N ∧ Strict N) ∨ (ε = 7 ∧ N = [] ∧ ∃ i ∈ ids, fnd L i = none)
def TopU (L : List Nd) (ids N : List ByteArray) (ε : Int) : Prop := (ε = 0 ∧ Strict N ∧ (∃ M, Clo L ids M) ∧ ∀ M, Clo L ids M → Near L M N) ∨ (ε = 7 ∧ N = [] ∧ ∃ i ∈ ids, fnd L i = none)
def BasU (L : List Nd) (ids : List ByteArray) (b : ByteArray) (N : List ByteArray) (ε : Int) : Prop := (ε = 0 ∧ Strict N ∧ ∃ S Ma Mb, Clo L ids Ma ∧ Clo L [b] Mb ∧ (∀ x, x ∈ S ↔ x ∈ Ma ∧ x ∈ Mb) ∧ Near L S N) ∨ (ε = 7 ∧ N = [] ∧ ((∃ i ∈ ids, fnd L i = none) ∨ fnd L b = none))
def OrdU (L : List Nd) (ids N : List ByteArray) (ε : Int) : Prop := (ε = 0 ∧ ∃ M, Clo L ids M ∧ Strict M ∧ N.Perm M ∧ N.Pairwise (OrdR (fS L))) ∨ (ε = 7 ∧ N = [] ∧ ∃ i ∈ ids, fnd L i = none)
theorem clo_no {L : List Nd} {ids M : List ByteArray} (h : Clo L ids M) : ¬ ∃ i ∈ ids, fnd L i = none := by
  rintro ⟨i, hi, hn⟩
  obtain ⟨n, h2⟩ := h.1 i hi
  rw [hn] at h2
  cases h2
theorem AncU.uniq {L : List Nd} {ids N N' : List ByteArray} {ε ε' : Int} (h : AncU L ids N ε) (h' : AncU L ids N' ε') : N = N' ∧ ε = ε' := by
  rcases h with ⟨rfl, h1, h2⟩ | ⟨rfl, rfl, h1⟩ <;> rcases h' with ⟨rfl, k1, k2⟩ | ⟨rfl, rfl, k1⟩
  · exact ⟨clo_fn h1 k1 h2 k2, rfl⟩
  · exact absurd k1 (clo_no h1)
  · exact absurd h1 (clo_no k1)
  · exact ⟨rfl, rfl⟩
theorem TopU.uniq {L : List Nd} {ids N N' : List ByteArray} {ε ε' : Int} (h : TopU L ids N ε) (h' : TopU L ids N' ε') : N = N' ∧ ε = ε' := by
  rcases h with ⟨rfl, h1, ⟨M, hM⟩, h2⟩ | ⟨rfl, rfl, h1⟩ <;> rcases h' with ⟨rfl, k1, ⟨M', hM'⟩, k2⟩ | ⟨rfl, rfl, k1⟩
  · exact ⟨near_eq (fun _ => Iff.rfl) (h2 M hM) (k2 M hM) h1 k1, rfl⟩
  · exact absurd k1 (clo_no hM)
  · exact absurd h1 (clo_no hM')
  · exact ⟨rfl, rfl⟩
theorem BasU.uniq {L : List Nd} {ids N N' : List ByteArray} {b : ByteArray} {ε ε' : Int} (h : BasU L ids b N ε) (h' : BasU L ids b N' ε') : N = N' ∧ ε = ε' := by
  rcases h with ⟨rfl, h1, S, Ma, Mb, ha, hb, hS, h2⟩ | ⟨rfl, rfl, h1⟩ <;> rcases h' with ⟨rfl, k1, S', Ma', Mb', ka, kb, kS, k2⟩ | ⟨rfl, rfl, k1⟩
  · refine ⟨near_eq (fun x => ?_) h2 k2 h1 k1, rfl⟩
    rw [hS x, kS x, ha.2 x, ka.2 x, hb.2 x, kb.2 x]
  · rcases k1 with k1 | k1
    · exact absurd k1 (clo_no ha)
    · exact absurd ⟨b, by simp, k1⟩ (clo_no hb)
  · rcases h1 with h1 | h1
    · exact absurd h1 (clo_no ka)
    · exact absurd ⟨b, by simp, h1⟩ (clo_no kb)
  · exact ⟨rfl, rfl⟩
theorem OrdU.uniq {L : List Nd} {ids N N' : List ByteArray} {ε ε' : Int} (h : OrdU L ids N ε) (h' : OrdU L ids N' ε') : N = N' ∧ ε = ε' := by
  rcases h with ⟨rfl, M, h1, h2, h3, h4⟩ | ⟨rfl, rfl, h1⟩ <;> rcases h' with ⟨rfl, M', k1, k2, k3, k4⟩ | ⟨rfl, rfl, k1⟩
  · have := clo_fn h1 k1 h2 k2
    subst this
    exact ⟨ord_eq h4 k4 (h3.trans k3.symm), rfl⟩
  · exact absurd k1 (clo_no h1)
  · exact absurd h1 (clo_no k1)
  · exact ⟨rfl, rfl⟩
end Go.Mx
namespace Go.Proofs.Ytojbdlbcaoeffaa
open Go.RowKit Go.Mx
section
variable {w : World} {g B x : Nat} {vi vp vs : Value} {G : List Gd} {PV : List Value} {v : Value} {ids : List ByteArray}
theorem anc_u (h : GG w g B G) (hv : Sl w 1 v ids.length (ss ids)) (hl : ids.length ≤ 1000000) : Calls Try.prog 14 #[.pointer (some ⟨g, 0, none⟩), v] w (UAns (AncU (G.map (·.2)) ids) w) :=
  (ancestors_g g B G v ids w h.r h.wf hv hl).mono fun e w' he => by
    rcases he with ⟨u, M, rfl, hs, hc, hst, _⟩ | ⟨u, rfl, hs, hno⟩
    · exact ⟨u, M, 0, rfl, hs, .inl ⟨rfl, hc, hst⟩⟩
    · exact ⟨u, [], 7, rfl, hs, .inr ⟨rfl, rfl, hno⟩⟩
theorem xanc_u (h : XG w x vi vp vs (G.map (·.2)) PV) (hw : WF (G.map (·.2))) (hL : G.length ≤ 2000) (hv : Sl w 1 v ids.length (ss ids)) (hl : ids.length ≤ 1000000) : Calls Try.prog 31 #[.pointer (some ⟨x, 0, none⟩), v] w (UAns (AncU (G.map (·.2)) ids) w) :=
  (xanc_any x vi vp vs _ PV v ids w h hw (by simpa using hL) hv hl).mono fun e w' he => by
    rcases he with ⟨u, M, rfl, hs, hc, hst⟩ | ⟨rfl, hs, hno⟩
    · exact ⟨u, M, 0, rfl, hs, .inl ⟨rfl, hc, hst⟩⟩
    · exact ⟨_, [], 7, rfl, hs.addNil _ _, .inr ⟨rfl, rfl, hno⟩⟩
theorem near_all {L : List Nd} {ids M N : List ByteArray} (hM : Clo L ids M) (h : Near L M N) : ∀ M', Clo L ids M' → Near L M' N := fun M' hM' x => by
  have hmm : ∀ y, y ∈ M ↔ y ∈ M' := fun y => (hM.2 y).trans (hM'.2 y).symm
  rw [h x, hmm x]
  exact and_congr_right fun _ => ⟨fun h m hm => h m ((hmm m).2 hm), fun h m hm => h m ((hmm m).1 hm)⟩
theorem clo_ex {L : List Nd} (hw : WF L) {ids : List ByteArray} (h : ∀ i ∈ ids, ∃ n, fnd L i = some n) : ∃ M, Clo L ids M := by
  classical
  refine ⟨(L.map Prod.fst).filter fun x => decide (∃ i ∈ ids, Anc L x i), h, fun x => ?_⟩
  rw [List.mem_filter, decide_eq_true_iff]
  refine ⟨fun h => h.2, fun ⟨i, hi, ha⟩ => ⟨?_, i, hi, ha⟩⟩
  obtain ⟨n, hn⟩ := h i hi
  obtain ⟨m, hm, _⟩ := ha.mem hw hn
  exact fnd_key hm
theorem tops_u (h : GG w g B G) (hv : Sl w 1 v ids.length (ss ids)) (hl : ids.length ≤ 1000000) : Calls Try.prog 16 #[.pointer (some ⟨g, 0, none⟩), v] w (UAns (TopU (G.map (·.2)) ids) w) :=
  (tops_g g B G v ids w h.r h.wf hv hl).mono fun e w' he => by
    rcases he with ⟨u, N, M, rfl, hs, hst, _, hc, hn⟩ | ⟨rfl, hs, hno⟩
    · exact ⟨u, N, 0, rfl, hs, .inl ⟨rfl, hst, ⟨M, hc⟩, near_all hc hn⟩⟩
    · exact ⟨_, [], 7, rfl, hs.addNil _ _, .inr ⟨rfl, rfl, hno⟩⟩
theorem xtops_u (h : XG w x vi vp vs (G.map (·.2)) PV) (hw : WF (G.map (·.2))) (hL : G.length ≤ 2000) (hpl : ∀ q ∈ G, q.2.2.1.length ≤ 1000000) (hv : Sl w 1 v ids.length (ss ids)) (hl : ids.length ≤ 1000000) : Calls Try.prog 33 #[.pointer (some ⟨x, 0, none⟩), v] w (UAns (TopU (G.map (·.2)) ids) w) :=
  (xtops_any x vi vp vs _ PV v ids w h hw (by simpa using hL) (fun n hn => by obtain ⟨q, hq, rfl⟩ := List.mem_map.1 hn; exact hpl q hq) hv hl).mono fun e w' he => by
    rcases he with ⟨u, N, rfl, hs, hst, hin, hn⟩ | ⟨rfl, hs, hno⟩
    · obtain ⟨M, hM⟩ := clo_ex hw hin
      exact ⟨u, N, 0, rfl, hs, .inl ⟨rfl, hst, ⟨M, hM⟩, hn⟩⟩
    · exact ⟨_, [], 7, rfl, hs.addNil _ _, .inr ⟨rfl, rfl, hno⟩⟩
theorem bases_u {b : ByteArray} (h : GG w g B G) (hv : Sl w 1 v ids.length (ss ids)) (hl : ids.length ≤ 1000000) : Calls Try.prog 10 #[.pointer (some ⟨g, 0, none⟩), v, .string b] w (UAns (BasU (G.map (·.2)) ids b) w) :=
  (bases_g g B G v ids b w h.r h.wf hv hl).mono fun e w' he => by
    rcases he with ⟨u, N, S, Ma, Mb, rfl, hs, hst, _, ha, hb, hS, hn⟩ | ⟨rfl, hs, hno⟩
    · exact ⟨u, N, 0, rfl, hs, .inl ⟨rfl, hst, S, Ma, Mb, ha, hb, hS, hn⟩⟩
    · exact ⟨_, [], 7, rfl, hs.addNil _ _, .inr ⟨rfl, rfl, hno⟩⟩
theorem xbases_u {b : ByteArray} (h : XG w x vi vp vs (G.map (·.2)) PV) (hw : WF (G.map (·.2))) (hL : G.length ≤ 2000) (hpl : ∀ q ∈ G, q.2.2.1.length ≤ 1000000) (hv : Sl w 1 v ids.length (ss ids)) (hl : ids.length ≤ 1000000) : Calls Try.prog 32 #[.pointer (some ⟨x, 0, none⟩), v, .string b] w (UAns (BasU (G.map (·.2)) ids b) w) :=
  (xbases_any x vi vp vs _ PV v ids b w h hw (by simpa using hL) (fun n hn => by obtain ⟨q, hq, rfl⟩ := List.mem_map.1 hn; exact hpl q hq) hv hl).mono fun e w' he => by
    rcases he with ⟨u, N, S, Ma, Mb, rfl, hs, hst, ha, hb, hS, hn⟩ | ⟨rfl, hs, hno⟩
    · exact ⟨u, N, 0, rfl, hs, .inl ⟨rfl, hst, S, Ma, Mb, ha, hb, hS, hn⟩⟩
    · exact ⟨_, [], 7, rfl, hs.addNil _ _, .inr ⟨rfl, rfl, hno⟩⟩
theorem order_u (h : GG w g B G) (h40 : G.length ≤ 40) (hv : Sl w 1 v ids.length (ss ids)) (hl : ids.length ≤ 1000000) : Calls Try.prog 22 #[.pointer (some ⟨g, 0, none⟩), v] w (UAns (OrdU (G.map (·.2)) ids) w) :=
  (order_g g B G v ids w h h40 hv hl).mono fun e w' he => by
    rcases he with ⟨u, M, l, rfl, hs, hc, hst, _, hm, hr⟩ | ⟨u, rfl, hs, hno⟩
    · have hlen : l.length = M.length := hm.len
      refine ⟨u, l, 0, rfl, hs.cast hlen.symm rfl, .inl ⟨rfl, M, hc, hst, hm.perm, ord_kO (fun y hy => ?_) (ord_mov hst hm hr)⟩⟩
      exact hc.isin h.wf y (hm.perm.mem_iff.1 hy)
    · exact ⟨u, [], 7, rfl, hs, .inr ⟨rfl, rfl, hno⟩⟩
theorem xorder_u (h : XG w x vi vp vs (G.map (·.2)) PV) (hw : WF (G.map (·.2))) (hL : G.length ≤ 2000) (hv : Sl w 1 v ids.length (ss ids)) (hl : ids.length ≤ 1000000) : Calls Try.prog 34 #[.pointer (some ⟨x, 0, none⟩), v] w (UAns (OrdU (G.map (·.2)) ids) w) :=
  (xorder_any x vi vp vs _ PV v ids w h hw (by simpa using hL) hv hl).mono fun e w' he => by
    rcases he with ⟨u, M, l, rfl, hs, hc, hst, hp, ho⟩ | ⟨rfl, hs, hno⟩
    · exact ⟨u, l, 0, rfl, hs, .inl ⟨rfl, M, hc, hst, hp, ho⟩⟩
    · exact ⟨_, [], 7, rfl, hs.addNil _ _, .inr ⟨rfl, rfl, hno⟩⟩
end
end Go.Proofs.Ytojbdlbcaoeffaa
