/- The document's GraphOf: its memory; the walk of its search. -/
import Derived.Test.YtloogjdafhjheaaGreatPrG
import Derived.Test.YtloogjdafhjheaaGreatR6D
import Derived.Test.YtloogjdafhjheaaGreatJ12ObjA
import Derived.Test.YtloogjdafhjheaaGreatJ20RgQ
import Derived.Test.YtloogjdafhjheaaGreatRgC
import Derived.Test.YtloogjdafhjheaaGreatDgE
import Derived.Test.YtloogjdafhjheaaGreatJ26Has
import Derived.Test.YtloogjdafhjheaaGreatHeldD
import Derived.Deep.LoopGhost
import Derived.Deep.DeepCutAuto
import Derived.Deep.CutBlock
namespace Go.Mx
open Go Go.RowKit
/-- What was met: its name, where its parts stand, what it is. -/
abbrev Do := ByteArray × Value × Value × Value × Ob
def ocl (d : Do) : List Value := OC d.2.1 d.2.2.1 d.2.2.2.1 d.2.2.2.2
def ocs : List Do → List Value
  | [] => []
  | d :: D => ocl d ++ ocs D
theorem ocl_len (d : Do) : (ocl d).length = 8 := rfl
theorem ocs_len (D : List Do) : (ocs D).length = D.length * 8 := by
  induction D with
  | nil => rfl
  | cons d D ih => rw [ocs, List.length_append, ih, ocl_len, List.length_cons]; omega
theorem ocs_app (D E : List Do) : ocs (D ++ E) = ocs D ++ ocs E := by
  induction D with
  | nil => rfl
  | cons d D ih => rw [List.cons_append, ocs, ih, ocs, List.append_assoc]
theorem ocs_snoc (D : List Do) (d : Do) : ocs (D ++ [d]) = ocs D ++ ocl d := by rw [ocs_app, ocs, ocs, List.append_nil]
theorem ocs_get {D : List Do} {j i : Nat} (hj : j < D.length) (hi : i < 8) : (ocs D)[j * 8 + i]? = (ocl D[j])[i]? := by
  have h1 : D = D.take j ++ D[j] :: D.drop (j + 1) := by rw [← List.drop_eq_getElem_cons hj, List.take_append_drop]
  have h2 : ocs D = ocs (D.take j) ++ (ocl D[j] ++ ocs (D.drop (j + 1))) := by
    conv => lhs; rw [h1, ocs_app, ocs]
  rw [h2, List.getElem?_append_right (by rw [ocs_len, List.length_take]; omega), ocs_len, List.length_take, List.getElem?_append_left (by rw [ocl_len]; omega)]
  congr 1
  omega
theorem ocl_one (d : Do) (h : ∃ a n c, d.2.1 = .slice a n c) (h2 : ∃ a n c, d.2.2.1 = .slice a n c) (h3 : ∃ a n c, d.2.2.2.1 = .slice a n c) : ∀ u ∈ ocl d, u.oneCell' = true := by
  obtain ⟨_, _, _, e1⟩ := h
  obtain ⟨_, _, _, e2⟩ := h2
  obtain ⟨_, _, _, e3⟩ := h3
  intro u hu
  unfold ocl OC at hu
  rw [e1, e2, e3] at hu
  simp at hu
  rcases hu with rfl | rfl | rfl | rfl | rfl | rfl | rfl | rfl <;> rfl
def rdO (d : Do) : Rd := ⟨d.2.2.2.1, 1, d.2.2.2.2.parents.length, ss d.2.2.2.2.parents⟩
theorem RJ.uniq (nb : ByteArray → List ByteArray) (ids : List ByteArray) : RJ nb ids (uniqL ids) [] :=
  ⟨fun x h => by
    rcases h with h | h
    · cases h
    · exact ⟨x, (mem_uniqL ids x).1 h, .refl x⟩, fun i h => .inr ((mem_uniqL ids i).2 h), fun m h => (by cases h), List.nodup_nil⟩
/-- The names that are to be looked for: a slice that was cut at its head, over a row. -/
def Td (nb : Nat) (w0 w : World) (e : TypeId) (v : Value) (Wk : List ByteArray) (R : List Row) (Q : List Rd) : Prop :=
  (v = .slice none 0 0 ∧ Wk = [] ∧ St w0 w R Q) ∨
  ∃ g k N cap xs, OffV v g k N cap ∧ xs.drop k = ss Wk ∧ N ≤ nb ∧ St w0 w (⟨.slice (some ⟨g, 0, none⟩) N cap, e, 1, N, xs⟩ :: R) Q
end Go.Mx
namespace Go.Mx
open Go Go.RowKit
theorem Td.start {w0 w : World} {R : List Row} {Q : List Rd} {e : TypeId} {v : Value} {n : Nat} {l : List ByteArray} (h : St w0 w (⟨v, e, 1, n, ss l⟩ :: R) Q) (hn : n = l.length) (hb : n ≤ 1000000) : Td 1000000 w0 w e v l R Q := by
  subst hn
  rcases own_form2 (h.own _ (List.mem_cons_self ..)) with ⟨hv, hm0⟩ | ⟨gs, cs, hv⟩
  · simp only [] at hv hm0
    exact .inl ⟨hv, List.eq_nil_of_length_eq_zero hm0, h.tail⟩
  · simp only [] at hv
    subst hv
    exact .inr ⟨gs, 0, l.length, cs, ss l, OffV.start h, by simp, hb, h⟩
theorem Td.nil {nb : Nat} {w0 w : World} {R : List Row} {Q : List Rd} {e : TypeId} {v : Value} (h : Td nb w0 w e v [] R Q) : ∃ a c, v = .slice a 0 c ∧ St w0 w R Q := by
  rcases h with ⟨rfl, _, h⟩ | ⟨g, k, N, cap, xs, hv, hx, _, h⟩
  · exact ⟨_, _, rfl, h⟩
  · obtain ⟨ao, rfl, _⟩ := hv.len
    have hlen := congrArg List.length hx
    have hxl := h.sl0.len
    rw [List.length_drop] at hlen
    simp [ss] at hlen
    exact ⟨ao, cap - k, by rw [show N - k = 0 by omega], h.tail⟩
theorem Td.cons {nb : Nat} {w0 w : World} {R : List Row} {Q : List Rd} {e : TypeId} {v : Value} {x : ByteArray} {l : List ByteArray} (h : Td nb w0 w e v (x :: l) R Q) :
    ∃ g k N cap xs c, v = .slice (some ⟨g, k, none⟩) (l.length + 1) c ∧ l.length + 1 ≤ c ∧ c ≤ 9223372036854775807 ∧ OffV v g k N cap ∧ xs.drop (k + 1) = ss l ∧ k < N ∧ N ≤ nb ∧ w.cell? ⟨g, k, none⟩ = some (.string x) ∧ St w0 w (⟨.slice (some ⟨g, 0, none⟩) N cap, e, 1, N, xs⟩ :: R) Q := by
  rcases h with ⟨_, h, _⟩ | ⟨g, k, N, cap, xs, hv, hx, hN, h⟩
  · cases h
  · obtain ⟨rfl, hc, hl, _, hd, hk⟩ := OffV.cell h hv hx
    obtain ⟨ao, he, h1, h2⟩ := hv.len
    rw [List.length_map] at hl
    exact ⟨g, k, N, cap, xs, cap - k, by rw [hl], by omega, h2, hv, hd, hk, hN, hc, h⟩
theorem Td.more {nb nb' : Nat} {w0 w : World} {R R' : List Row} {Q Q' : List Rd} {e : TypeId} {v : Value} {l : List ByteArray} (h : Td nb w0 w e v l R Q) (hn : nb ≤ nb') (hR : R'.Sublist R) (hQ : ∀ q ∈ Q', q ∈ Q) : Td nb' w0 w e v l R' Q' := by
  rcases h with ⟨h1, h2, h⟩ | ⟨g, k, N, cap, xs, hv, hx, hN, h⟩
  · exact .inl ⟨h1, h2, h.sub hR hQ⟩
  · exact .inr ⟨g, k, N, cap, xs, hv, hx, by omega, h.sub (hR.cons_cons _) hQ⟩
/-- A fresh element of many cells, read. -/
theorem St.bqN {w0 w : World} {R : List Row} {Q : List Rd} (h : St w0 w R Q) (cs : Array Value) (e : TypeId) (size : Nat) (hs : cs.size = size) : St w0 (w.alloc (.cells cs e)) R (⟨.slice (some ⟨w.heap.size, 0, none⟩) 1 1, size, 1, cs.toList⟩ :: Q) := by
  have h1 := (h.made cs e size 1 (by omega) (by simp [maxLen])).freeze
  exact h1
theorem objs_at {f : ByteArray → Option (List UInt8)} {w wx : World} {R : List Row} {Q Q0 : List Rd} {oa ma : Option Addr} {oc mc : Nat} {D : List Do} {M : List ByteArray} (h : St w wx R Q) (hq : ∀ q ∈ Q0, q ∈ Q)
    (hQ0 : Q0 = (⟨.slice oa D.length oc, 8, D.length, ocs D⟩ : Rd) :: ⟨.slice ma D.length mc, 1, D.length, ss M⟩ :: D.map rdO) (hM : D.map (·.1) = M) (hA : ∀ d ∈ D, cmt f d.1 = some d.2.2.2.2) (j : Nat) (hj : j < M.length) :
    ∃ ob oo mb mo pa pc, oa = some ⟨ob, oo, none⟩ ∧ ma = some ⟨mb, mo, none⟩ ∧ D.length ≤ oc ∧ oc ≤ 9223372036854775807 ∧ D.length ≤ mc ∧ mc ≤ 9223372036854775807 ∧ wx.cell? ⟨mb, mo + j, none⟩ = some (.string M[j]) ∧ wx.cell? ⟨ob, oo + j * 8 + 5, none⟩ = some (.int .i64 (stp f M[j])) ∧
      wx.cell? ⟨ob, oo + j * 8 + 4, none⟩ = some (.slice pa (nbP f M[j]).length pc) ∧ (⟨.slice pa (nbP f M[j]).length pc, 1, (nbP f M[j]).length, ss (nbP f M[j])⟩ : Rd) ∈ Q ∧ (nbP f M[j]).length ≤ 256 := by
  subst hM
  have hjD : j < D.length := by simpa using hj
  have hc := hA _ (List.getElem_mem hjD)
  have hn := nbP_of hc
  have hs : stp f D[j].1 = D[j].2.2.2.2.stamp := by unfold stp; rw [hc]
  have hp := cmt_par hc
  have r1 : Sl wx 8 (.slice oa D.length oc) D.length (ocs D) := h.rd _ (hq _ (by rw [hQ0]; exact List.mem_cons_self ..))
  have r2 : Sl wx 1 (.slice ma D.length mc) D.length (ss (D.map (·.1))) := h.rd _ (hq _ (by rw [hQ0]; exact List.mem_cons_of_mem _ (List.mem_cons_self ..)))
  have m3 : rdO D[j] ∈ Q := hq _ (by rw [hQ0]; exact List.mem_cons_of_mem _ (List.mem_cons_of_mem _ (List.mem_map_of_mem (List.getElem_mem hjD))))
  have r3 : Sl wx 1 D[j].2.2.2.1 D[j].2.2.2.2.parents.length (ss D[j].2.2.2.2.parents) := h.rd _ m3
  obtain ⟨pa, pc, hpv, _⟩ := r3.form
  obtain ⟨oa', oc', he1, a1, a2, _, _, a5⟩ := r1.form
  cases he1
  obtain ⟨ma', mc', he2, b1, b2, _, _, b5⟩ := r2.form
  cases he2
  obtain ⟨ob, oo, rfl, ho⟩ := a5 (by intro he; have := congrArg List.length he; rw [ocs_len] at this; simp at this; omega)
  obtain ⟨mb, mo, rfl, hm⟩ := b5 (by intro he; have h9 := congrArg List.length he; rw [ss_len, List.length_map, List.length_nil] at h9; omega)
  have e1 : (D.map (·.1))[j] = D[j].1 := by simp
  rw [e1, hs, hn]
  refine ⟨ob, oo, mb, mo, pa, pc, rfl, rfl, a1, a2, b1, b2, ?_, ?_, ?_, ?_, hp⟩
  · have := hm j (.string D[j].1) (by rw [ss, List.getElem?_map, List.getElem?_map, List.getElem?_eq_getElem hjD]; rfl)
    exact this
  · have := ho (j * 8 + 5) (.int .i64 D[j].2.2.2.2.stamp) (by rw [ocs_get hjD (by omega)]; rfl)
    rw [← Nat.add_assoc] at this
    exact this
  · have := ho (j * 8 + 4) D[j].2.2.2.1 (by rw [ocs_get hjD (by omega)]; rfl)
    rw [← Nat.add_assoc, hpv] at this
    exact this
  · unfold rdO at m3
    rw [hpv] at m3
    exact m3
end Go.Mx
namespace Go.Proofs.YtloogjdafhjheaaGreat
open Go.RowKit Go.Mx
theorem Tryz.elEr : El Tryz.prog 38 34 1 8 := El.mk' Tryz.underlying38 (z := .int .i64 0) (by kernel_rfl) rfl (by omega)
theorem Tryz.elOb6 : El Tryz.prog 71 76 8 128 := El.mk' Tryz.underlying71 (z := obZ) (by kernel_rfl) rfl (by omega)
/-- What the search owns. -/
abbrev gR (gx : Nat) (vi vo xm xo xe : Value) (D : List Do) (er : List Int) : List Row :=
  [⟨xe, 34, 1, er.length, is er⟩, ⟨xm, 9, 1, D.length, ss (D.map (·.1))⟩, ⟨xo, 76, 8, D.length, ocs D⟩, told1 gx vi vo]
def GofPost (f : ByteArray → Option (List UInt8)) (ids : List ByteArray) (most : Nat) (w : World) (e : Ending) (w' : World) : Prop :=
  (∃ (x : Nat) (vi vp vs : Value) (L : List ByteArray) (PV : List Value), e = .returned (.tuple #[.pointer (some ⟨x, 0, none⟩), .slice none 0 0]) ∧ St w w' [] [] ∧ XG w' x vi vp vs (L.map (ndOf f)) PV ∧ GoodM f ids most L ∧ Ups f L) ∨
  (∃ (v : Value) (er : List Int), er ≠ [] ∧ e = .returned (.tuple #[.pointer none, v]) ∧ St w w' [⟨v, 34, 1, er.length, is er⟩] [] ∧ ¬ HasG f ids most)
/-- The document's graph as it grows. -/
structure GB (f : ByteArray → Option (List UInt8)) (w wr : World) (gx : Nat) (vi vp vs : Value) (L : List ByteArray) (PV : List Value) (Q Q0 : List Rd) : Prop where
  st : St w wr (xR gx vi vp vs (L.map (ndOf f)) PV) Q
  sub : ∀ q ∈ Q0, q ∈ Q
  pv : ∀ (j : Nat) (hj : j < L.length), ∃ pv, PV[j]? = some pv ∧ (⟨pv, 1, (uniqL (nbP f L[j])).length, ss (uniqL (nbP f L[j]))⟩ : Rd) ∈ Q
theorem GB.xg {f : ByteArray → Option (List UInt8)} {w wr : World} {gx : Nat} {vi vp vs : Value} {L : List ByteArray} {PV : List Value} {Q Q0 : List Rd} (h : GB f w wr gx vi vp vs L PV Q Q0) : XG wr gx vi vp vs (L.map (ndOf f)) PV where
  c0 := h.st.rcell (List.mem_cons_of_mem _ (List.mem_cons_of_mem _ (List.mem_cons_of_mem _ (List.mem_cons_self ..)))) (j := 0) rfl
  c1 := h.st.rcell (List.mem_cons_of_mem _ (List.mem_cons_of_mem _ (List.mem_cons_of_mem _ (List.mem_cons_self ..)))) (j := 1) rfl
  c2 := h.st.rcell (List.mem_cons_of_mem _ (List.mem_cons_of_mem _ (List.mem_cons_of_mem _ (List.mem_cons_self ..)))) (j := 2) rfl
  si := h.st.sl0
  sp := h.st.sl1
  st := h.st.sl2
  sl j hj := by
    obtain ⟨pv, h1, h2⟩ := h.pv j (by simpa using hj)
    refine ⟨pv, h1, ?_⟩
    have := h.st.rd _ h2
    simpa [ndOf] using this
theorem GB.at {f : ByteArray → Option (List UInt8)} {w wr wr' : World} {gx : Nat} {vi vp vs : Value} {L : List ByteArray} {PV : List Value} {Q Q0 : List Rd} (h : GB f w wr gx vi vp vs L PV Q Q0) (hs : St w wr' (xR gx vi vp vs (L.map (ndOf f)) PV) Q) : GB f w wr' gx vi vp vs L PV Q Q0 := ⟨hs, h.sub, h.pv⟩
theorem GB.more {f : ByteArray → Option (List UInt8)} {w wr wr' : World} {gx : Nat} {vi vp vs vi' vp' vs' u : Value} {L : List ByteArray} {PV : List Value} {Q Q0 : List Rd} {x : ByteArray} (h : GB f w wr gx vi vp vs L PV Q Q0)
    (hs : St w wr' (xR gx vi' vp' vs' (L.map (ndOf f) ++ [(x, uniqL (nbP f x), stp f x)]) (PV ++ [u])) (⟨u, 1, (uniqL (nbP f x)).length, ss (uniqL (nbP f x))⟩ :: Q)) : GB f w wr' gx vi' vp' vs' (L ++ [x]) (PV ++ [u]) (⟨u, 1, (uniqL (nbP f x)).length, ss (uniqL (nbP f x))⟩ :: Q) Q0 where
  st := by rw [List.map_append]; exact hs
  sub q hq := List.mem_cons_of_mem _ (h.sub q hq)
  pv j hj := by
    have hpl : PV.length = L.length := by have := h.st.sl1.len; simpa using this
    by_cases hlt : j < L.length
    · obtain ⟨pv, h1, h2⟩ := h.pv j hlt
      refine ⟨pv, by rw [List.getElem?_append_left (by omega)]; exact h1, ?_⟩
      rw [List.getElem_append_left hlt]
      exact List.mem_cons_of_mem _ h2
    · obtain rfl : j = L.length := by simp at hj; omega
      refine ⟨u, by rw [List.getElem?_append_right (by omega), hpl, Nat.sub_self]; rfl, ?_⟩
      rw [List.getElem_append_right (Nat.le_refl _)]
      simp only [Nat.sub_self, List.getElem_cons_zero]
      exact List.mem_cons_self ..
/-- What a source answers, in one form. -/
def SrcU (so : Option (List UInt8)) (w : World) (e : Ending) (w' : World) : Prop :=
  ∃ a c okb bb, e = .returned (.tuple #[.slice a bb.length c, .bool okb]) ∧ St w w' [⟨.slice a bb.length c, 5, 1, bb.length, bs bb⟩] [] ∧ ((okb = true ∧ so = some bb) ∨ (okb = false ∧ so = none ∧ bb = []))
theorem srcU {so : Option (List UInt8)} {w : World} {e : Ending} {w' : World} (h : SourceAns so w e w') : SrcU so w e w' := by
  unfold SourceAns at h
  match so, h with
  | none, ⟨h1, h2⟩ => exact ⟨none, 0, false, [], h1, h2.addNil _ _, .inr ⟨rfl, rfl, rfl⟩⟩
  | some b, ⟨v, h1, h2⟩ =>
    obtain ⟨a, c, rfl, _⟩ := id h2.sl0
    exact ⟨a, c, true, b, h1, h2, .inl ⟨rfl, rfl⟩⟩
/-- What the search has found. -/
def Srch (f : ByteArray → Option (List UInt8)) (ids : List ByteArray) (most : Nat) (w wx : World) (gx : Nat) (vi vo xm xo xe : Value) (D : List Do) (er : List Int) : Prop :=
  (er = [] → GoodM f ids most (D.map (·.1)) ∧ ∀ d ∈ D, cmt f d.1 = some d.2.2.2.2) ∧ (er ≠ [] → ∀ M0, ¬ GoodM f ids most M0) ∧ (er = [] → xe = .slice none 0 0) ∧ D.length ≤ most ∧ er.length ≤ 2001 ∧ St w wx (gR gx vi vo xm xo xe D er) (D.map rdO)

set_option maxRecDepth 200000 in
set_option maxHeartbeats 8000000 in
theorem graphof_any (vi vo v : Value) (l : List (List UInt8)) (lie : Bool) (ids : List ByteArray) (most : Nat) (w : World) (hi : Sl w 1 vi l.length (ss (idsT l lie))) (ho : LL w vo l) (hz : ∀ x ∈ l, x.length ≤ 1000000000) (hv : Sl w 1 v ids.length (ss ids)) (hil : ids.length ≤ 100000) (hm1 : 1 ≤ most) (hm2 : most ≤ 2000) (hf : SrcOK (srcF l lie)) :
    Calls Tryz.prog 10 #[stv vi vo, v, .int .i64 (most : Int)] w (GofPost (srcF l lie) ids most w) := by
  have HSG := Mx.hid (fun id wx (hs : St w wx [] []) => sget_any vi vo l lie id wx (hs.old hi) (LL.old hs ho) (fun x hx => by have := hz x hx; omega))
  have HMEM := Mx.hid (fun id b (hb : srcF l lie id = some b) => hz b (srcI_mem hb))
  have HU := Mx.hid (fun wx (hs : St w wx [] []) => refUnique_any v ids wx (hs.old hv) (by omega))
  have HF := Mx.hid hf
  obtain ⟨bo, bcap, rfl, -⟩ := hi.form
  obtain ⟨ao, acap, _, _, _, rfl, -⟩ := ho.at
  have hul := uniqL_len ids
  clear hi ho hz hv hf
  generalize srcF l lie = f at *
  go_enter Tryz.func10, Tryz.ntmps10
  go_upto_block 0 with (first | ((with_reducible show wpList _ _ _ _ _ _); refine wpl_want rfl ?_) | (((with_reducible show wpList _ _ _ _ _ _); refine wpl_box rfl 31 _ rfl (St.refl w) ([.slice bo l.length bcap, .slice ao l.length acap, .pointer none]) (by rfl) ?_; intro gx wx hsx)) | (go_at_call 30; refine (HU.out _ hsx.bare).mono ?_; rintro e w1 ⟨v1, rfl, hk⟩))
  have htd := Td.start (((((hsx.addNil 76 8).addNil 9 1).addNil 34 1).call1 hk)) rfl (by omega)
  clear hsx hk HU
  obtain ⟨n0, hn00⟩ : ∃ n0, n0 = 2001 * 300 + (uniqL ids).length := ⟨_, rfl⟩
  have HN0 := Mx.hid hn00
  have hn0 : n0 ≤ 700300 := by omega
  clear hn00
  go_cut [9, 10, 11] (fun sm so se wx => ∃ (D : List Do) (er : List Int) (xm xo xe : Value), xm = sm ∧ xo = so ∧ xe = se ∧ Hid (Srch f ids most w wx gx (.slice bo l.length bcap) (.slice ao l.length acap) xm xo xe D er))
  case first =>
    go_wp2_with fail
    go_loopg [8, 9, 10, 11] n0 (fun kk xt sm so se wr => ∃ (Wk : List ByteArray) (D : List Do) (er : List Int) (xm xo xe : Value), xm = sm ∧ xo = so ∧ xe = se ∧ Hid ((2001 - D.length) * 300 + Wk.length ≤ kk ∧ kk ≤ n0) ∧ Hid (RJ (nbP f) ids Wk (D.map (·.1))) ∧ Hid (er = [] → ∀ d ∈ D, cmt f d.1 = some d.2.2.2.2) ∧ Hid (er ≠ [] → ∀ M0, ¬ GoodM f ids most M0) ∧ Hid (er = [] → xe = .slice none 0 0) ∧ D.length ≤ most ∧ er.length ≤ D.length ∧ Td (1000000 + 256 * D.length) w wr 9 xt Wk (gR gx (.slice bo l.length bcap) (.slice ao l.length acap) xm xo xe D er) (D.map rdO))
    case atStart => exact ⟨uniqL ids, [], [], _, _, _, rfl, rfl, rfl, Mx.hid ⟨by rw [HN0.out]; simp, Nat.le_refl _⟩, Mx.hid (RJ.uniq _ _), Mx.hid (fun _ d h => by cases h), Mx.hid (fun h => absurd rfl h), Mx.hid (fun _ => rfl), by simp, by simp, htd⟩
    case round =>
      clear htd
      obtain ⟨Wk, D, er, xm, xo, xe, rfl, rfl, rfl, HK, HI, HA, HB, HNE, hML, hEL, htd⟩ := hrel
      cases Wk with
      | nil =>
        obtain ⟨ta, tc, rfl, hs⟩ := htd.nil
        have HS := Mx.hid (show Srch f ids most w wr gx (.slice bo l.length bcap) (.slice ao l.length acap) xm xo xe D er from ⟨fun h => ⟨rg_done HI.out (fun m hm => by obtain ⟨d, hd, rfl⟩ := List.mem_map.1 hm; rw [HA.out h d hd]; simp) (by simpa using hML), HA.out h⟩, HB.out, HNE.out, hML, by omega, hs⟩)
        clear HI HA HB HNE htd
        go_wp2_with fail
        go_meet
        exact ⟨D, er, _, _, _, rfl, rfl, rfl, HS⟩
      | cons x Wk' =>
        obtain ⟨gt, k, N, cap, xs, tc, rfl, htc1, htc2, hov, hxd, hkN, hN, ct, hs⟩ := htd.cons
        have HOV := Mx.hid hov
        have HXD := Mx.hid hxd
        clear hov htd hxd
        have hwk : Wk'.length ≤ 700300 := by have := HK.out; simp at this; omega
        have hWI : ∀ y, y ∈ x :: Wk' ↔ y = x ∨ y ∈ Wk' := fun y => List.mem_cons
        have hxW : x ∈ x :: Wk' := List.mem_cons_self ..
        have HHAS := Mx.hid (has_any xm (D.map (·.1)) wr (by rw [List.length_map]; exact hs.sl2) x)
        obtain ⟨ma, mc, rfl, _⟩ := id hs.sl2
        obtain ⟨ea, ec, rfl, _⟩ := id hs.sl1
        obtain ⟨oa, oc, rfl, _⟩ := id (show Sl wr 8 xo D.length (ocs D) from hs.sl (r := ⟨xo, 76, 8, D.length, ocs D⟩) (by simp))
        by_cases hx : x ∈ D.map (·.1)
        · rw [hasT_iff.2 hx] at HHAS
          have HI2 := Mx.hid (HI.out.skip hWI hx)
          have HK2 := Mx.hid (show (2001 - D.length) * 300 + Wk'.length < gk ∧ gk ≤ n0 by have := HK.out; simp at this; omega)
          clear hx HI HK hWI hxW
          go_wp2_with (first | ((with_reducible show wpList _ _ _ _ _ _); refine wpl_cutOff rfl 23 _ _ rfl Tryz.elStr (by exact HOV.out) hkN rfl ?_; intro vt hvt) | (go_at_call 31; refine HHAS.out.mono ?_; rintro e w2 ⟨rfl, rfl⟩))
          go_roundg ((2001 - D.length) * 300 + Wk'.length)
          case measure => exact HK2.out.1
          case rel => exact ⟨Wk', D, er, _, _, _, rfl, rfl, rfl, Mx.hid ⟨Nat.le_refl _, Nat.le_of_lt (Nat.lt_of_lt_of_le HK2.out.1 HK2.out.2)⟩, HI2, HA, HB, HNE, hML, hEL, .inr ⟨gt, k + 1, N, cap, xs, hvt, HXD.out, hN, hs⟩⟩
        · rw [hasT_not.2 hx] at HHAS
          by_cases hlim : most ≤ D.length
          · have HE := Mx.hid (rg_many HI.out hxW hx (by simpa using hlim))
            have hle : (D.length : Int) = (most : Int) := by omega
            have q1 : decide ((D.length : Int) = (most : Int)) = true := decide_eq_true hle
            have q2 : ((D.length : Int) == (most : Int)) = true := by simpa using hle
            have HL := Mx.hid hML
            clear hx HI HK hWI hxW hlim hle HA HB HNE
            go_wp2_with (first | ((with_reducible show wpList _ _ _ _ _ _); refine wpl_cutOff rfl 23 _ _ rfl Tryz.elStr (by exact HOV.out) hkN rfl ?_; intro vt hvt) | (go_at_call 31; refine HHAS.out.mono ?_; rintro e w2 ⟨rfl, rfl⟩) | (at_builtin; refine wpl_app rfl _ _ 38 rfl Tryz.elEr (hs.swap.alloc _) rfl (by exact Sl.one _ _ _) (by intro u hu; simp at hu; subst hu; rfl) (by omega) ?_; intro ve we he _))
            go_meet
            exact ⟨D, er ++ [14], _, _, _, rfl, rfl, rfl, Mx.hid ⟨fun h => absurd h (by simp), fun _ => HE.out, fun h => absurd h (by simp), HL.out, by simp; omega, by
              exact he.swap.tail.castR (by simp [is])⟩⟩
          · have q1 : decide ((D.length : Int) = (most : Int)) = false := decide_eq_false (by omega)
            have q2 : ((D.length : Int) == (most : Int)) = false := by simp; omega
            have HX := Mx.hid (fun wx (hs : St w wx [] []) => (HSG.out x wx hs).mono fun e w' he => srcU he)
            have HNX := Mx.hid hx
            have HXW := Mx.hid hxW
            have HWI := Mx.hid hWI
            have hDm : D.length + 1 ≤ most := by omega
            clear hx hWI hxW hlim
            go_wp2_with (first | ((with_reducible show wpList _ _ _ _ _ _); refine wpl_cutOff rfl 23 _ _ rfl Tryz.elStr (by exact HOV.out) hkN rfl ?_; intro vt hvt) | (go_at_call 31; refine HHAS.out.mono ?_; rintro e w2 ⟨rfl, rfl⟩) | ((with_reducible show wpList _ _ _ _ _ _); refine wpl_loadA rfl 31 _ rfl Tryz.aSrc (gx) (0) rfl ([.slice bo l.length bcap, .slice ao l.length acap, .pointer none]) rfl (VC.of hs (List.mem_cons_of_mem _ (List.mem_cons_of_mem _ (List.mem_cons_of_mem _ (List.mem_cons_of_mem _ (List.mem_cons_self ..)))))) ?_))
            refine (HX.out _ hs.bare).mono ?_
            rintro e w4 ⟨va, vc, okb, bb, rfl, hk, hcs⟩
            have HCS := Mx.hid hcs
            have hbl : bb.length ≤ 1000000000 := by
              rcases hcs with ⟨_, h⟩ | ⟨_, _, rfl⟩
              · exact HMEM.out x bb h
              · simp
            have HDC := Mx.hid (rdecode_any _ bb w4 hk.sl0 hbl)
            obtain ⟨q, er0, hD⟩ : ∃ q er0, decO bb = (q, er0) := ⟨_, _, rfl⟩
            unfold RDecPost at HDC
            rw [hD] at HDC
            have HDD := Mx.hid hD
            have hs4 := hs.call0 hk.bare
            clear hcs hD HX
            go_wp2_with fail
            refine HDC.out.mono ?_
            rintro e w5 ⟨vd, vi2, vp, rfl, hk5⟩
            obtain ⟨kq, dq, iq, tq, pq, sq, aq, mq⟩ := q
            obtain ⟨qd1, qd2, rfl, _⟩ := id (show Sl w5 1 vd dq.length (bs dq) from hk5.sl0)
            obtain ⟨qi1, qi2, rfl, _⟩ := id (show Sl w5 3 vi2 iq.length (itms iq) from hk5.sl1)
            obtain ⟨qp1, qp2, rfl, _⟩ := id (show Sl w5 1 vp pq.length (ss pq) from hk5.sl2)
            simp only [OV] at hk5 ⊢
            have hs5 := (hs4.call hk5).freeze.freeze.freeze
            dsimp only at hs5
            clear HDC hs hs4 hk hk5
            go_upto_region 15 with (((with_reducible show wpList _ _ _ _ _ _); refine wpl_storeA rfl 76 _ _ rfl Tryz.aObj6 (hs5.madeAt ([.int .i64 (0), .slice none 0 0, .slice none 0 0, .string (str []), .slice none 0 0, .int .i64 (0), .int .i64 (0), .string (str [])]).toArray 76 8 1 _ rfl (by simp [maxLen]) rfl) (0) rfl ([.int .i64 kq, .slice qd1 dq.length qd2, .slice qi1 iq.length qi2, .string tq, .slice qp1 pq.length qp2, .int .i64 sq, .int .i64 aq, .string mq]) rfl (by rfl) (by simp) (by intro u hu; simp at hu; rcases hu with rfl | rfl | rfl | rfl | rfl | rfl | rfl | rfl <;> rfl) ?_; intro w6 hs6))
            replace hs6 := hs6.cast rfl (show _ = [.int .i64 kq, .slice qd1 dq.length qd2, .slice qi1 iq.length qi2, .string tq, .slice qp1 pq.length qp2, .int .i64 sq, .int .i64 aq, .string mq] by simp)
            have hc := (hs6.perm (List.perm_append_comm (l₁ := [_, _, _]) (l₂ := [_, _, _])))
            clear hs5 hs6
            generalize w5.heap.size = gO at *
            go_cut [9, 10] (fun s9 s10 wx => (∃ a c, s9 = .slice a (D.length + 1) c) ∧ (∃ a c, s10 = .slice a (D.length + 1) c) ∧ St w wx [⟨s9, 9, 1, D.length + 1, ss (D.map (·.1)) ++ [.string x]⟩, ⟨s10, 76, 8, D.length + 1, ocs D ++ [.int .i64 kq, .slice qd1 dq.length qd2, .slice qi1 iq.length qi2, .string tq, .slice qp1 pq.length qp2, .int .i64 sq, .int .i64 aq, .string mq]⟩, told1 gx (.slice bo l.length bcap) (.slice ao l.length acap), ⟨.slice (some ⟨gO, 0, none⟩) 1 1, 76, 8, 1, [.int .i64 kq, .slice qd1 dq.length qd2, .slice qi1 iq.length qi2, .string tq, .slice qp1 pq.length qp2, .int .i64 sq, .int .i64 aq, .string mq]⟩, ⟨.slice (some ⟨gt, 0, none⟩) N cap, 9, 1, N, xs⟩, ⟨.slice ea er.length ec, 34, 1, er.length, is er⟩] (⟨.slice qp1 pq.length qp2, 1, pq.length, ss pq⟩ :: D.map rdO))
            case first =>
              replace hc := hc.drew
              (refine wp_region_S (8) (VC gO ([.int .i64 kq, .slice qd1 dq.length qd2, .slice qi1 iq.length qi2, .string tq, .slice qp1 pq.length qp2, .int .i64 sq, .int .i64 aq, .string mq])) (by kernel_rfl) ?_ (fun hHeld => ?_); (focus ((try dsimp only); exact VC.of hc (by repeat (first | exact List.mem_cons_self .. | apply List.mem_cons_of_mem)))))
              (refine wpAnyS_takeW (i := 0) (v := ?_) rfl (by kernel_rfl) (by kernel_rfl) (by kernel_rfl) (by kernel_rfl) (fun _ _ _ h => h) (Or.inl ⟨by rfl, ?_⟩) hHeld ?_; rotate_left 1; (focus (intro w' hSw; go_simp; (try with_reducible rfl))); (try simp only [Act.put, List.setIfInBounds_toArray, List.set_cons_zero, List.set_cons_succ]))
              (refine wpAnyS_takeW (i := 1) (v := ?_) rfl (by kernel_rfl) (by kernel_rfl) (by kernel_rfl) (by kernel_rfl) (fun _ _ _ h => h) (Or.inl ⟨by rfl, ?_⟩) hHeld ?_; rotate_left 1; (focus (intro w' hSw; go_simp; (try with_reducible rfl))); (try simp only [Act.put, List.setIfInBounds_toArray, List.set_cons_zero, List.set_cons_succ]))
              (refine wpAnyS_takeW (i := 4) (v := ?_) rfl (by kernel_rfl) (by kernel_rfl) (by kernel_rfl) (by kernel_rfl) (fun _ _ _ h => h) (Or.inl ⟨by rfl, ?_⟩) hHeld ?_; rotate_left 1; (focus (intro w' hSw; go_simp; (try with_reducible rfl))); (try simp only [Act.put, List.setIfInBounds_toArray, List.set_cons_zero, List.set_cons_succ]))
              (refine wpAnyS_takeD (i := 5) (v := ?_) rfl (by kernel_rfl) (by kernel_rfl) (by kernel_rfl) (by kernel_rfl) (by kernel_rfl) (fun _ _ _ h => h) (Or.inl ⟨by first | rfl | (go_simp; done), ?_⟩) hHeld ?_; rotate_left 1; (focus (intro w' hSw; (try dsimp only at hSw); have y0 : w'.cell? ⟨gO, 0, none⟩ = some (.int .i64 kq) := hSw 0 _ rfl; have y1 : w'.cell? ⟨gO, 1, none⟩ = some (.slice qd1 dq.length qd2) := hSw 1 _ rfl; have y2 : w'.cell? ⟨gO, 2, none⟩ = some (.slice qi1 iq.length qi2) := hSw 2 _ rfl; have y3 : w'.cell? ⟨gO, 3, none⟩ = some (.string tq) := hSw 3 _ rfl; have y4 : w'.cell? ⟨gO, 4, none⟩ = some (.slice qp1 pq.length qp2) := hSw 4 _ rfl; have y5 : w'.cell? ⟨gO, 5, none⟩ = some (.int .i64 sq) := hSw 5 _ rfl; have y6 : w'.cell? ⟨gO, 6, none⟩ = some (.int .i64 aq) := hSw 6 _ rfl; have y7 : w'.cell? ⟨gO, 7, none⟩ = some (.string mq) := hSw 7 _ rfl; go_simp; (try with_reducible rfl))); (try simp only [Act.put, List.setIfInBounds_toArray, List.set_cons_zero, List.set_cons_succ]))
              generalize w6.drew = W at hc hHeld ⊢
              refine wpAnyS_ready (rs := [2, 6]) (by kernel_rfl) (by simp) ?_
              refine AllS.consL rfl (fun K hK => ?_) ?_
              · go_simp
                replace hc := hc.bq (Value.string x) 9
                generalize W.alloc (Obj.cells #[Value.string x] 9) = W1 at hc ⊢
                generalize W.heap.size = gA at hc ⊢
                (refine hK.out _ _ ?_ (fun hHeld => ?_); (focus ((try dsimp only); exact VC.of hc (by repeat (first | exact List.mem_cons_self .. | apply List.mem_cons_of_mem)))); clear hK K; (try simp only [Act.put, List.setIfInBounds_toArray, List.set_cons_zero, List.set_cons_succ]))
                obtain ⟨W, rfl⟩ : ∃ W : World, W = W1 := ⟨_, rfl⟩
                refine wpAnyS_ready (rs := [3, 6]) (by kernel_rfl) (by simp) ?_
                refine AllS.consL rfl (fun K hK => ?_) ?_
                · refine step_app rfl _ _ 23 rfl Tryz.elStr (by exact hc) rfl (by first | exact hc.q0 | exact hc.q1) (by intro u hu; simp at hu; subst hu; rfl) (by omega) ?_
                  intro vX W1 hX _
                  replace hc := hX
                  clear hX
                  obtain ⟨mO, mC, rfl, _⟩ := id hc.sl0
                  (refine hK.out _ _ ?_ (fun hHeld => ?_); (focus ((try dsimp only); exact VC.of hc (by repeat (first | exact List.mem_cons_self .. | apply List.mem_cons_of_mem)))); clear hK K; (try simp only [Act.put, List.setIfInBounds_toArray, List.set_cons_zero, List.set_cons_succ]))
                  obtain ⟨W, rfl⟩ : ∃ W : World, W = W1 := ⟨_, rfl⟩
                  (refine wpAnyS_ready (rs := [6]) (by kernel_rfl) (by simp) ?_; refine AllS.consL rfl (fun K hK => ?_) AllS.nil)
                  go_simp
                  replace hc := hc.bqN ([.int .i64 kq, .slice qd1 dq.length qd2, .slice qi1 iq.length qi2, .string tq, .slice qp1 pq.length qp2, .int .i64 sq, .int .i64 aq, .string mq]).toArray 76 8 rfl
                  change St w (W.alloc (Obj.cells #[.int .i64 kq, .slice qd1 dq.length qd2, .slice qi1 iq.length qi2, .string tq, .slice qp1 pq.length qp2, .int .i64 sq, .int .i64 aq, .string mq] 76)) _ _ at hc
                  generalize W.alloc (Obj.cells #[.int .i64 kq, .slice qd1 dq.length qd2, .slice qi1 iq.length qi2, .string tq, .slice qp1 pq.length qp2, .int .i64 sq, .int .i64 aq, .string mq] 76) = W1 at hc ⊢
                  generalize W.heap.size = gB at hc ⊢
                  (refine hK.out _ _ ?_ (fun hHeld => ?_); (focus ((try dsimp only); exact VC.of hc (by repeat (first | exact List.mem_cons_self .. | apply List.mem_cons_of_mem)))); clear hK K; (try simp only [Act.put, List.setIfInBounds_toArray, List.set_cons_zero, List.set_cons_succ]))
                  obtain ⟨W, rfl⟩ : ∃ W : World, W = W1 := ⟨_, rfl⟩
                  (refine wpAnyS_ready (rs := [7]) (by kernel_rfl) (by simp) ?_; refine AllS.consL rfl (fun K hK => ?_) AllS.nil)
                  refine step_app rfl _ _ 71 rfl Tryz.elOb6 (by exact hc.swap) rfl (by first | exact hc.q0 | exact hc.q1) (by intro u hu; simp at hu; rcases hu with rfl | rfl | rfl | rfl | rfl | rfl | rfl | rfl <;> rfl) (by omega) ?_
                  intro vY W1 hX _
                  replace hc := hX.swap
                  clear hX
                  obtain ⟨oO, oC, rfl, _⟩ := id hc.sl1
                  (refine hK.out _ _ ?_ (fun hHeld => ?_); (focus ((try dsimp only); exact VC.of hc (by repeat (first | exact List.mem_cons_self .. | apply List.mem_cons_of_mem)))); clear hK K; (try simp only [Act.put, List.setIfInBounds_toArray, List.set_cons_zero, List.set_cons_succ]))
                  obtain ⟨W, rfl⟩ : ∃ W : World, W = W1 := ⟨_, rfl⟩
                  (refine wpAnyS_seq (by rfl) (by kernel_rfl) ?_; simp only [List.drop_succ_cons, List.drop_zero])
                  clear hHeld
                  go_wp2_with fail
                  go_meet
                  exact ⟨⟨_, _, rfl⟩, ⟨_, _, rfl⟩, hc.sub (List.Sublist.refl _) (fun q hq => by
                    rcases List.mem_cons.1 hq with rfl | hq
                    · exact List.mem_cons_of_mem _ (List.mem_cons_of_mem _ (List.mem_cons_self ..))
                    · exact List.mem_cons_of_mem _ (List.mem_cons_of_mem _ (List.mem_cons_of_mem _ (List.mem_cons_of_mem _ (List.mem_cons_of_mem _ hq)))))⟩
                refine AllS.consL rfl (fun K hK => ?_) ?_
                · go_simp
                  replace hc := hc.bqN ([.int .i64 kq, .slice qd1 dq.length qd2, .slice qi1 iq.length qi2, .string tq, .slice qp1 pq.length qp2, .int .i64 sq, .int .i64 aq, .string mq]).toArray 76 8 rfl
                  change St w (W.alloc (Obj.cells #[.int .i64 kq, .slice qd1 dq.length qd2, .slice qi1 iq.length qi2, .string tq, .slice qp1 pq.length qp2, .int .i64 sq, .int .i64 aq, .string mq] 76)) _ _ at hc
                  generalize W.alloc (Obj.cells #[.int .i64 kq, .slice qd1 dq.length qd2, .slice qi1 iq.length qi2, .string tq, .slice qp1 pq.length qp2, .int .i64 sq, .int .i64 aq, .string mq] 76) = W1 at hc ⊢
                  generalize W.heap.size = gB at hc ⊢
                  (refine hK.out _ _ ?_ (fun hHeld => ?_); (focus ((try dsimp only); exact VC.of hc (by repeat (first | exact List.mem_cons_self .. | apply List.mem_cons_of_mem)))); clear hK K; (try simp only [Act.put, List.setIfInBounds_toArray, List.set_cons_zero, List.set_cons_succ]))
                  obtain ⟨W, rfl⟩ : ∃ W : World, W = W1 := ⟨_, rfl⟩
                  (refine wpAnyS_ready (rs := [3]) (by kernel_rfl) (by simp) ?_; refine AllS.consL rfl (fun K hK => ?_) AllS.nil)
                  refine step_app rfl _ _ 23 rfl Tryz.elStr (by exact hc) rfl (by first | exact hc.q0 | exact hc.q1) (by intro u hu; simp at hu; subst hu; rfl) (by omega) ?_
                  intro vX W1 hX _
                  replace hc := hX
                  clear hX
                  obtain ⟨mO, mC, rfl, _⟩ := id hc.sl0
                  (refine hK.out _ _ ?_ (fun hHeld => ?_); (focus ((try dsimp only); exact VC.of hc (by repeat (first | exact List.mem_cons_self .. | apply List.mem_cons_of_mem)))); clear hK K; (try simp only [Act.put, List.setIfInBounds_toArray, List.set_cons_zero, List.set_cons_succ]))
                  obtain ⟨W, rfl⟩ : ∃ W : World, W = W1 := ⟨_, rfl⟩
                  (refine wpAnyS_ready (rs := [7]) (by kernel_rfl) (by simp) ?_; refine AllS.consL rfl (fun K hK => ?_) AllS.nil)
                  refine step_app rfl _ _ 71 rfl Tryz.elOb6 (by exact hc.swap) rfl (by first | exact hc.q0 | exact hc.q1) (by intro u hu; simp at hu; rcases hu with rfl | rfl | rfl | rfl | rfl | rfl | rfl | rfl <;> rfl) (by omega) ?_
                  intro vY W1 hX _
                  replace hc := hX.swap
                  clear hX
                  obtain ⟨oO, oC, rfl, _⟩ := id hc.sl1
                  (refine hK.out _ _ ?_ (fun hHeld => ?_); (focus ((try dsimp only); exact VC.of hc (by repeat (first | exact List.mem_cons_self .. | apply List.mem_cons_of_mem)))); clear hK K; (try simp only [Act.put, List.setIfInBounds_toArray, List.set_cons_zero, List.set_cons_succ]))
                  obtain ⟨W, rfl⟩ : ∃ W : World, W = W1 := ⟨_, rfl⟩
                  (refine wpAnyS_seq (by rfl) (by kernel_rfl) ?_; simp only [List.drop_succ_cons, List.drop_zero])
                  clear hHeld
                  go_wp2_with fail
                  go_meet
                  exact ⟨⟨_, _, rfl⟩, ⟨_, _, rfl⟩, hc.sub (List.Sublist.refl _) (fun q hq => by
                    rcases List.mem_cons.1 hq with rfl | hq
                    · exact List.mem_cons_of_mem _ (List.mem_cons_of_mem _ (List.mem_cons_self ..))
                    · exact List.mem_cons_of_mem _ (List.mem_cons_of_mem _ (List.mem_cons_of_mem _ (List.mem_cons_of_mem _ (List.mem_cons_of_mem _ hq)))))⟩
                exact AllS.nil
              refine AllS.consL rfl (fun K hK => ?_) ?_
              · go_simp
                replace hc := hc.bqN ([.int .i64 kq, .slice qd1 dq.length qd2, .slice qi1 iq.length qi2, .string tq, .slice qp1 pq.length qp2, .int .i64 sq, .int .i64 aq, .string mq]).toArray 76 8 rfl
                change St w (W.alloc (Obj.cells #[.int .i64 kq, .slice qd1 dq.length qd2, .slice qi1 iq.length qi2, .string tq, .slice qp1 pq.length qp2, .int .i64 sq, .int .i64 aq, .string mq] 76)) _ _ at hc
                generalize W.alloc (Obj.cells #[.int .i64 kq, .slice qd1 dq.length qd2, .slice qi1 iq.length qi2, .string tq, .slice qp1 pq.length qp2, .int .i64 sq, .int .i64 aq, .string mq] 76) = W1 at hc ⊢
                generalize W.heap.size = gB at hc ⊢
                (refine hK.out _ _ ?_ (fun hHeld => ?_); (focus ((try dsimp only); exact VC.of hc (by repeat (first | exact List.mem_cons_self .. | apply List.mem_cons_of_mem)))); clear hK K; (try simp only [Act.put, List.setIfInBounds_toArray, List.set_cons_zero, List.set_cons_succ]))
                obtain ⟨W, rfl⟩ : ∃ W : World, W = W1 := ⟨_, rfl⟩
                (refine wpAnyS_ready (rs := [2]) (by kernel_rfl) (by simp) ?_; refine AllS.consL rfl (fun K hK => ?_) AllS.nil)
                go_simp
                replace hc := hc.bq (Value.string x) 9
                generalize W.alloc (Obj.cells #[Value.string x] 9) = W1 at hc ⊢
                generalize W.heap.size = gA at hc ⊢
                (refine hK.out _ _ ?_ (fun hHeld => ?_); (focus ((try dsimp only); exact VC.of hc (by repeat (first | exact List.mem_cons_self .. | apply List.mem_cons_of_mem)))); clear hK K; (try simp only [Act.put, List.setIfInBounds_toArray, List.set_cons_zero, List.set_cons_succ]))
                obtain ⟨W, rfl⟩ : ∃ W : World, W = W1 := ⟨_, rfl⟩
                (refine wpAnyS_ready (rs := [3]) (by kernel_rfl) (by simp) ?_; refine AllS.consL rfl (fun K hK => ?_) AllS.nil)
                refine step_app rfl _ _ 23 rfl Tryz.elStr (by exact hc) rfl (by first | exact hc.q0 | exact hc.q1) (by intro u hu; simp at hu; subst hu; rfl) (by omega) ?_
                intro vX W1 hX _
                replace hc := hX
                clear hX
                obtain ⟨mO, mC, rfl, _⟩ := id hc.sl0
                (refine hK.out _ _ ?_ (fun hHeld => ?_); (focus ((try dsimp only); exact VC.of hc (by repeat (first | exact List.mem_cons_self .. | apply List.mem_cons_of_mem)))); clear hK K; (try simp only [Act.put, List.setIfInBounds_toArray, List.set_cons_zero, List.set_cons_succ]))
                obtain ⟨W, rfl⟩ : ∃ W : World, W = W1 := ⟨_, rfl⟩
                (refine wpAnyS_ready (rs := [7]) (by kernel_rfl) (by simp) ?_; refine AllS.consL rfl (fun K hK => ?_) AllS.nil)
                refine step_app rfl _ _ 71 rfl Tryz.elOb6 (by exact hc.swap) rfl (by first | exact hc.q0 | exact hc.q1) (by intro u hu; simp at hu; rcases hu with rfl | rfl | rfl | rfl | rfl | rfl | rfl | rfl <;> rfl) (by omega) ?_
                intro vY W1 hX _
                replace hc := hX.swap
                clear hX
                obtain ⟨oO, oC, rfl, _⟩ := id hc.sl1
                (refine hK.out _ _ ?_ (fun hHeld => ?_); (focus ((try dsimp only); exact VC.of hc (by repeat (first | exact List.mem_cons_self .. | apply List.mem_cons_of_mem)))); clear hK K; (try simp only [Act.put, List.setIfInBounds_toArray, List.set_cons_zero, List.set_cons_succ]))
                obtain ⟨W, rfl⟩ : ∃ W : World, W = W1 := ⟨_, rfl⟩
                (refine wpAnyS_seq (by rfl) (by kernel_rfl) ?_; simp only [List.drop_succ_cons, List.drop_zero])
                clear hHeld
                go_wp2_with fail
                go_meet
                exact ⟨⟨_, _, rfl⟩, ⟨_, _, rfl⟩, hc.sub (List.Sublist.refl _) (fun q hq => by
                  rcases List.mem_cons.1 hq with rfl | hq
                  · exact List.mem_cons_of_mem _ (List.mem_cons_of_mem _ (List.mem_cons_self ..))
                  · exact List.mem_cons_of_mem _ (List.mem_cons_of_mem _ (List.mem_cons_of_mem _ (List.mem_cons_of_mem _ (List.mem_cons_of_mem _ hq)))))⟩
              exact AllS.nil
            case rest =>
              obtain ⟨⟨ya, yc, rfl⟩, ⟨za, zc, rfl⟩, hs⟩ := hcut
              clear hc
              have k0 : wc.cell? ⟨gO, 0, none⟩ = some (.int .i64 kq) := hs.rcell (List.mem_cons_of_mem _ (List.mem_cons_of_mem _ (List.mem_cons_of_mem _ (List.mem_cons_self ..)))) (j := 0) rfl
              have k4 : wc.cell? ⟨gO, 4, none⟩ = some (.slice qp1 pq.length qp2) := hs.rcell (List.mem_cons_of_mem _ (List.mem_cons_of_mem _ (List.mem_cons_of_mem _ (List.mem_cons_self ..)))) (j := 4) rfl
              have hs2 := (hs.perm (List.perm_append_comm (l₁ := [_, _, _]) (l₂ := [_, _, _]))).tail
              have hpq := hs2.q0
              obtain ⟨d, hdd⟩ : ∃ d : Do, d = (x, .slice qd1 dq.length qd2, .slice qi1 iq.length qi2, .slice qp1 pq.length qp2, ⟨kq, dq, iq, tq, pq, sq, aq, mq⟩) := ⟨_, rfl⟩
              have HGR : ∀ (wz : World) (ve : Value) (er' : List Int) (Rt : List Row), St w wz (Rt ++ [⟨ve, 34, 1, er'.length, is er'⟩, ⟨.slice ya (D.length + 1) yc, 9, 1, D.length + 1, ss (D.map (·.1)) ++ [.string x]⟩, ⟨.slice za (D.length + 1) zc, 76, 8, D.length + 1, ocs D ++ [.int .i64 kq, .slice qd1 dq.length qd2, .slice qi1 iq.length qi2, .string tq, .slice qp1 pq.length qp2, .int .i64 sq, .int .i64 aq, .string mq]⟩, told1 gx (.slice bo l.length bcap) (.slice ao l.length acap)]) (⟨.slice qp1 pq.length qp2, 1, pq.length, ss pq⟩ :: D.map rdO) →
                  St w wz (Rt ++ gR gx (.slice bo l.length bcap) (.slice ao l.length acap) (.slice ya (D.length + 1) yc) (.slice za (D.length + 1) zc) ve (D ++ [d]) er') ((D ++ [d]).map rdO) := by
                intro wz ve er' Rt h
                have e1 : ocs D ++ [.int .i64 kq, .slice qd1 dq.length qd2, .slice qi1 iq.length qi2, .string tq, .slice qp1 pq.length qp2, .int .i64 sq, .int .i64 aq, .string mq] = ocs (D ++ [d]) := by rw [ocs_snoc, hdd]; rfl
                have e2 : ss (D.map (·.1)) ++ [Value.string x] = ss ((D ++ [d]).map (·.1)) := by rw [List.map_append, ss_app, hdd]; rfl
                have e3 : D.length + 1 = (D ++ [d]).length := by simp
                rw [e1, e2] at h
                have h9 := h.sub (List.Sublist.refl _) (Q' := (D ++ [d]).map rdO) (fun q hq => by
                  rw [List.map_append] at hq
                  rcases List.mem_append.1 hq with hq | hq
                  · exact List.mem_cons_of_mem _ hq
                  · rw [List.mem_singleton.1 hq, hdd]; exact List.mem_cons_self ..)
                exact h9.castR (by rw [e3])
              have HGRR := Mx.hid HGR
              have HD1 := Mx.hid (show d.1 = x by rw [hdd])
              have HD2 := Mx.hid (show d.2.2.2.2 = ⟨kq, dq, iq, tq, pq, sq, aq, mq⟩ by rw [hdd])
              clear hs HGR hdd
              have HLEN := Mx.hid (show (D ++ [d]).length = D.length + 1 by simp)
              cases okb with
              | false =>
                have hfx : f x = none := by
                  rcases HCS.out with ⟨h, _⟩ | ⟨_, h, _⟩
                  · cases h
                  · exact h
                have HE := Mx.hid (rg_bad (most := most) HI.out HXW.out (cmt_no hfx))
                have HI2 := Mx.hid (HI.out.meet HWI.out HNX.out (Wk2 := Wk') (fun y => by unfold nbP; rw [cmt_no hfx]; simp))
                have HK2 := Mx.hid (show (2001 - (D.length + 1)) * 300 + Wk'.length < gk ∧ gk ≤ n0 by have := HK.out; simp at this; omega)
                clear HI HK hfx HA HB HNE
                go_wp2_with (first | ((with_reducible show wpList _ _ _ _ _ _); refine wpl_want rfl ?_) | (at_builtin; refine wpl_app rfl _ _ 38 rfl Tryz.elEr (hs2.swap.alloc _) rfl (by exact Sl.one _ _ _) (by intro u hu; simp at hu; subst hu; rfl) (by omega) ?_; intro ve we he _))
                go_roundg ((2001 - (D.length + 1)) * 300 + Wk'.length)
                case measure => exact HK2.out.1
                case rel =>
                  have h9 := he.swap
                  refine ⟨Wk', D ++ [d], er ++ [7], _, _, _, rfl, rfl, rfl, Mx.hid ⟨Nat.le_of_eq (by rw [HLEN.out]), Nat.le_of_lt (Nat.lt_of_lt_of_le HK2.out.1 HK2.out.2)⟩, Mx.hid (by rw [List.map_append, List.map_cons, HD1.out]; exact HI2.out), Mx.hid (fun h => absurd h (by simp)), Mx.hid (fun _ => HE.out), Mx.hid (fun h => absurd h (by simp)), by rw [HLEN.out]; exact hDm, by rw [HLEN.out]; simp; omega, .inr ⟨gt, k + 1, N, cap, xs, hvt, HXD.out, by rw [HLEN.out]; omega, HGRR.out _ _ _ [_] (h9.castR (by simp [is]))⟩⟩
              | true =>
                have hfx : f x = some bb := by
                  rcases HCS.out with ⟨_, h⟩ | ⟨h, _⟩
                  · exact h
                  · cases h
                by_cases hck : er0 = 0 ∧ kq = 3
                · obtain ⟨rfl, hk3⟩ := hck
                  have HCM := Mx.hid (cmt_ob hfx HDD.out hk3)
                  have hpl : pq.length ≤ 256 := cmt_par HCM.out
                  have q3 : decide (kq = 3) = true := decide_eq_true hk3
                  have q4 : (kq == 3) = true := by simpa using hk3
                  have HI2 := Mx.hid (HI.out.meet HWI.out HNX.out (Wk2 := Wk' ++ pq) (fun y => by rw [nbP_of HCM.out]; exact List.mem_append))
                  have HK2 := Mx.hid (show (2001 - (D.length + 1)) * 300 + (Wk' ++ pq).length < gk ∧ gk ≤ n0 by have := HK.out; simp at *; omega)
                  clear HI HK hk3 hfx
                  go_wp2_with (first | ((with_reducible show wpList _ _ _ _ _ _); refine wpl_want rfl ?_) | ((with_reducible show wpList _ _ _ _ _ _); refine wpl_appOff rfl _ _ 23 rfl Tryz.elStr hs2 (by exact hvt) (by exact hpq) (ss_one _) (by omega) ?_; intro v9 w9 g9 k9 N9 cap9 xs9 hov9 hxs9 hN9 hs9))
                  go_roundg ((2001 - (D.length + 1)) * 300 + (Wk' ++ pq).length)
                  case measure => exact HK2.out.1
                  case rel =>
                    refine ⟨Wk' ++ pq, D ++ [d], er, _, _, _, rfl, rfl, rfl, Mx.hid ⟨Nat.le_of_eq (by rw [HLEN.out]), Nat.le_of_lt (Nat.lt_of_lt_of_le HK2.out.1 HK2.out.2)⟩, Mx.hid (by rw [List.map_append, List.map_cons, HD1.out]; exact HI2.out), Mx.hid ?_, HB, HNE, by rw [HLEN.out]; exact hDm, by rw [HLEN.out]; omega, .inr ⟨g9, k9, N9, cap9, xs9, hov9, by rw [hxs9, HXD.out, ← ss_app], by rw [HLEN.out]; omega, HGRR.out _ _ _ [_] hs9⟩⟩
                    intro he d' hd'
                    rcases List.mem_append.1 hd' with h | h
                    · exact HA.out he d' h
                    · rw [List.mem_singleton.1 h, HD1.out, HD2.out]; exact HCM.out
                · have HE := Mx.hid (rg_bad (most := most) HI.out HXW.out (cmt_bad hfx HDD.out hck))
                  have HI2 := Mx.hid (HI.out.meet HWI.out HNX.out (Wk2 := Wk') (fun y => by unfold nbP; rw [cmt_bad hfx HDD.out hck]; simp))
                  by_cases he0 : er0 = 0
                  · subst he0
                    have hk3 : ¬ kq = 3 := fun h => hck ⟨rfl, h⟩
                    have q3 : decide (kq = 3) = false := decide_eq_false hk3
                    have q4 : (kq == 3) = false := by simpa using hk3
                    clear hck hk3
                    have HK2 := Mx.hid (show (2001 - (D.length + 1)) * 300 + Wk'.length < gk ∧ gk ≤ n0 by have := HK.out; simp at this; omega)
                    clear HI HK hfx HA HB HNE
                    go_wp2_with (first | ((with_reducible show wpList _ _ _ _ _ _); refine wpl_want rfl ?_) | (at_builtin; refine wpl_app rfl _ _ 38 rfl Tryz.elEr (hs2.swap.alloc _) rfl (by exact Sl.one _ _ _) (by intro u hu; simp at hu; subst hu; rfl) (by omega) ?_; intro ve we he _))
                    go_roundg ((2001 - (D.length + 1)) * 300 + Wk'.length)
                    case measure => exact HK2.out.1
                    case rel =>
                      have h9 := he.swap
                      refine ⟨Wk', D ++ [d], er ++ [4], _, _, _, rfl, rfl, rfl, Mx.hid ⟨Nat.le_of_eq (by rw [HLEN.out]), Nat.le_of_lt (Nat.lt_of_lt_of_le HK2.out.1 HK2.out.2)⟩, Mx.hid (by rw [List.map_append, List.map_cons, HD1.out]; exact HI2.out), Mx.hid (fun h => absurd h (by simp)), Mx.hid (fun _ => HE.out), Mx.hid (fun h => absurd h (by simp)), by rw [HLEN.out]; exact hDm, by rw [HLEN.out]; simp; omega, .inr ⟨gt, k + 1, N, cap, xs, hvt, HXD.out, by rw [HLEN.out]; omega, HGRR.out _ _ _ [_] (h9.castR (by simp [is]))⟩⟩
                  · have q3 : decide (er0 = 0) = false := decide_eq_false he0
                    have q4 : (er0 == 0) = false := by simpa using he0
                    clear hck he0
                    have HK2 := Mx.hid (show (2001 - (D.length + 1)) * 300 + Wk'.length < gk ∧ gk ≤ n0 by have := HK.out; simp at this; omega)
                    clear HI HK hfx HA HB HNE
                    go_wp2_with (first | ((with_reducible show wpList _ _ _ _ _ _); refine wpl_want rfl ?_) | (at_builtin; refine wpl_app rfl _ _ 38 rfl Tryz.elEr (hs2.swap.alloc _) rfl (by exact Sl.one _ _ _) (by intro u hu; simp at hu; subst hu; rfl) (by omega) ?_; intro ve we he _))
                    go_roundg ((2001 - (D.length + 1)) * 300 + Wk'.length)
                    case measure => exact HK2.out.1
                    case rel =>
                      have h9 := he.swap
                      refine ⟨Wk', D ++ [d], er ++ [4], _, _, _, rfl, rfl, rfl, Mx.hid ⟨Nat.le_of_eq (by rw [HLEN.out]), Nat.le_of_lt (Nat.lt_of_lt_of_le HK2.out.1 HK2.out.2)⟩, Mx.hid (by rw [List.map_append, List.map_cons, HD1.out]; exact HI2.out), Mx.hid (fun h => absurd h (by simp)), Mx.hid (fun _ => HE.out), Mx.hid (fun h => absurd h (by simp)), by rw [HLEN.out]; exact hDm, by rw [HLEN.out]; simp; omega, .inr ⟨gt, k + 1, N, cap, xs, hvt, HXD.out, by rw [HLEN.out]; omega, HGRR.out _ _ _ [_] (h9.castR (by simp [is]))⟩⟩
  case rest =>
    obtain ⟨D, er, xm, xo, xe, rfl, rfl, rfl, HS⟩ := hcut
    obtain ⟨h1, h2, h3, h4, h5, hs⟩ := HS.out
    clear HS htd HSG HMEM
    obtain ⟨ma, mc, rfl, -⟩ := id hs.sl1
    obtain ⟨oa, oc, rfl, -⟩ := id (show Sl wc 8 xo D.length (ocs D) from hs.sl2)
    cases er with
    | cons e0 er =>
      have HNG := Mx.hid (HasG.no (h2 (by simp)))
      obtain ⟨ea, ec, rfl, -⟩ := id hs.sl0
      have hs1 := hs.head.noQ
      clear h1 h2 h3
      have HNE : Hid (e0 :: er ≠ []) := Mx.hid (by simp)
      have hpos : 0 < (e0 :: er).length := by simp
      generalize e0 :: er = es at *
      generalize hne : es.length = ne at *
      have HNL := Mx.hid hne
      clear hne
      have q1 : ((ne : Int) == 0) = false := by simp; omega
      have q2 : decide ((ne : Int) = 0) = false := decide_eq_false (by omega)
      have q3 : decide (0 < (ne : Int)) = true := decide_eq_true (by omega)
      go_wp2_with (first | (((with_reducible show wpList _ _ _ _ _ _); refine wpl_box rfl 45 _ rfl hs1 ([.slice none 0 0, .slice none 0 0, .slice none 0 0]) (by rfl) ?_; intro gx w2 hs2)))
      go_loopw [11, 18] (fun xe n wr => xe = .slice ea ne ec ∧ n = .int .i64 0 ∧ w2 = wr) (fun _ _ _ => 0)
      case atStart => exact ⟨rfl, rfl, rfl⟩
      case round =>
        obtain ⟨rfl, rfl, rfl⟩ := hrel
        by_cases hD0 : 0 < D.length
        · have q4 : decide ((0 : Int) < (D.length : Int)) = true := decide_eq_true (by omega)
          go_wp2_with (first | ((with_reducible show wpList _ _ _ _ _ _); refine wpl_want rfl ?_))
          go_ret2
          exact .inr ⟨_, es, HNE.out, rfl, hs2.tail.cast HNL.out.symm rfl, HNG.out⟩
        · have q4 : decide ((0 : Int) < (D.length : Int)) = false := decide_eq_false (by omega)
          go_wp2_with (first | ((with_reducible show wpList _ _ _ _ _ _); refine wpl_want rfl ?_))
          go_ret2
          exact .inr ⟨_, es, HNE.out, rfl, hs2.tail.cast HNL.out.symm rfl, HNG.out⟩
    | nil =>
      obtain rfl := h3 rfl
      have HG := Mx.hid (h1 rfl).1
      have HA := Mx.hid (h1 rfl).2
      have hs1 := (hs.tail.freeze.freeze).tail
      dsimp only at hs1
      have HQ0 := Mx.hid (fun (d : Do) (hd : d ∈ D) => List.mem_map_of_mem (f := rdO) hd)
      clear h1 h2 h3 hs
      generalize hMd : D.map (·.1) = M at *
      have hMl : M.length = D.length := by rw [← hMd, List.length_map]
      have HMD := Mx.hid hMd
      clear hMd
      obtain ⟨Q0, hQ0⟩ : ∃ Q0, Q0 = ((⟨.slice oa D.length oc, 8, D.length, ocs D⟩ : Rd) :: ⟨.slice ma D.length mc, 1, D.length, ss M⟩ :: D.map rdO) := ⟨_, rfl⟩
      rw [← hQ0] at hs1
      have HQ := Mx.hid hQ0
      clear hQ0
      go_wp2_with (first | (((with_reducible show wpList _ _ _ _ _ _); refine wpl_box rfl 45 _ rfl hs1 ([.slice none 0 0, .slice none 0 0, .slice none 0 0]) (by rfl) ?_; intro gx w2 hs2)))
      have hsx : St w w2 (xR gx (.slice none 0 0) (.slice none 0 0) (.slice none 0 0) (([] : List ByteArray).map (ndOf f)) []) Q0 := ((hs2.addNil 3 1).addNil 23 1).addNil 9 1
      have hM40 : M.length ≤ 40 := HF.out.len HG.out.nod HG.out.all
      have HCL := Mx.hid (fun (wx : World) (R : List Row) (Q : List Rd) (h : St w wx R Q) (hq : ∀ q ∈ Q0, q ∈ Q) (j : Nat) (hj : j < M.length) => objs_at (f := f) h hq HQ.out HMD.out HA.out j hj)
      have HB0 := Mx.hid (show ∃ vi vp vs PV Q, GB f w w2 gx vi vp vs [] PV Q Q0 from ⟨_, _, _, _, _, hsx, fun q hq => hq, fun j hj => by simp at hj⟩)
      clear hsx hs2 hs1
      rw [← hMl] at *
      go_loopw [11, 18] (fun xe n wr => ∃ (i : Nat) (L : List ByteArray), n = .int .i64 i ∧ i ≤ M.length ∧ ((xe = .slice none 0 0 ∧ L.length = i ∧ Hid (Picked f M L) ∧ Hid (∃ vi vp vs PV Q, GB f w wr gx vi vp vs L PV Q Q0)) ∨ (∃ a c, xe = .slice a 1 c ∧ Hid (St w wr [⟨.slice a 1 c, 34, 1, 1, is [1]⟩] [] ∧ ¬ HasG f ids most)))) (fun _ n _ => M.length + 1 - (intOf n).toNat)
      case atStart => exact ⟨0, [], rfl, by omega, .inl ⟨rfl, rfl, Mx.hid (Picked.start f M), HB0⟩⟩
      case round =>
        clear HB0
        obtain ⟨i, L, rfl, hi, hcase⟩ := hrel
        rcases hcase with ⟨rfl, hLi, HP, HGB⟩ | ⟨ea, ec, rfl, HX⟩
        case inr =>
          by_cases hlt : i < M.length
          · have q4 : decide ((i : Int) < (M.length : Int)) = true := decide_eq_true (by omega)
            go_wp2_with (first | ((with_reducible show wpList _ _ _ _ _ _); refine wpl_want rfl ?_))
            go_ret2
            exact .inr ⟨_, [1], by simp, rfl, HX.out.1, HX.out.2⟩
          · have q4 : decide ((i : Int) < (M.length : Int)) = false := decide_eq_false (by omega)
            go_wp2_with (first | ((with_reducible show wpList _ _ _ _ _ _); refine wpl_want rfl ?_))
            go_ret2
            exact .inr ⟨_, [1], by simp, rfl, HX.out.1, HX.out.2⟩
        case inl =>
        by_cases hlt : i < M.length
        case neg =>
          have q4 : decide ((i : Int) < (M.length : Int)) = false := decide_eq_false (by omega)
          go_wp2_with (first | ((with_reducible show wpList _ _ _ _ _ _); refine wpl_want rfl ?_))
          go_ret2
          obtain ⟨vi, vp, vs, PV, Q, hgb⟩ := HGB.out
          have hgood := HP.out.good (by omega) HG.out
          exact .inl ⟨gx, vi, vp, vs, L, PV, rfl, hgb.st.bare, hgb.xg, hgood.1, hgood.2⟩
        case pos =>
        have q4 : decide ((i : Int) < (M.length : Int)) = true := decide_eq_true (by omega)
        have HLI := Mx.hid hLi
        obtain ⟨vi, vp, vs, PV, Q, hgb⟩ := HGB.out
        have HS3 := Mx.hid hgb.st
        have HGB2 := Mx.hid hgb
        clear hLi HGB hgb
        go_wp2_with (first | ((with_reducible show wpList _ _ _ _ _ _); refine wpl_want rfl ?_))
        go_loopw [19, 20] (fun k y wx => ∃ (j : Nat) (kk : Int), k = .int .i64 kk ∧ y = .int .i64 j ∧ j ≤ M.length ∧ Hid (PickI f M L j kk) ∧ Hid (St w wx (xR gx vi vp vs (L.map (ndOf f)) PV) Q)) (fun _ y _ => M.length - (intOf y).toNat)
        case atStart => exact ⟨0, -1, rfl, rfl, by omega, Mx.hid (PickI.start f M L), HS3⟩
        case round =>
          clear HS3
          obtain ⟨j, kk, rfl, rfl, hj, HPI, HS⟩ := hrel
          by_cases hjl : j < M.length
          case pos =>
            obtain ⟨ob, oo, mb, mo, _, _, rfl, rfl, a1, a2, b1, b2, _⟩ := HCL.out _ _ _ HS.out HGB2.out.sub j hjl
            have HCK : Hid (∀ (wx : World), St w wx (xR gx vi vp vs (L.map (ndOf f)) PV) Q → ∀ (c : Nat) (hc : c < M.length), wx.cell? ⟨mb, mo + c, none⟩ = some (.string M[c]) ∧ wx.cell? ⟨ob, oo + c * 8 + 5, none⟩ = some (.int .i64 (stp f M[c]))) := Mx.hid (fun wx h c hc => by
              obtain ⟨ob', oo', mb', mo', _, _, e1, e2, _, _, _, _, k1, k2, _⟩ := HCL.out wx _ _ h HGB2.out.sub c hc
              cases e1
              cases e2
              exact ⟨k1, k2⟩)
            have HCJ := Mx.hid (fun wx h => HCK.out wx h j hjl)
            have HHS := Mx.hid (fun wx (h : St w wx (xR gx vi vp vs (L.map (ndOf f)) PV) Q) => xhas_any gx vi vp vs (L.map (ndOf f)) PV M[j] wx (HGB2.out.at h).xg)
            have q5 : decide ((j : Int) < (M.length : Int)) = true := decide_eq_true (by omega)
            by_cases hin : M[j] ∈ L
            · have h1 : isIn (L.map (ndOf f)) M[j] = true := isIn_nd.2 hin
              rw [h1] at HHS
              have HPN := Mx.hid (HPI.out.pass hjl hin)
              clear h1 hin
              generalize stp f M[j] = sj at *
              generalize M[j] = y at *
              go_wp2_with fail
              refine wp_region_C (fun W' => St w W' (xR gx vi vp vs (L.map (ndOf f)) PV) Q) (by kernel_rfl) (by kernel_rfl) (by exact HS.out.drew) ?_
              repeat ((first | (refine cq_y0 (v := ?_) (by with_reducible rfl) ?_ ?_; rotate_left 1; (focus (intro wq hq; (try dsimp only at hq); (obtain ⟨y0, y1⟩ := HCJ.out _ hq); go_simp; (first | done | with_reducible rfl | (go_at_call 34; refine (HHS.out _ hq).mono ?_; rintro e w9 ⟨rfl, rfl⟩; refine ⟨?_, hq⟩; with_reducible rfl))))) | (refine cq_no (by go_simp; first | done | (intro h9; cases h9)) ?_) | (refine cq_yes (v := ?_) (by go_simp) ?_ ?_; rotate_left 1; (focus (intro wq hq; (try dsimp only at hq); (obtain ⟨y0, y1⟩ := HCJ.out _ hq); go_simp; (first | done | with_reducible rfl | (go_at_call 34; refine (HHS.out _ hq).mono ?_; rintro e w9 ⟨rfl, rfl⟩; refine ⟨?_, hq⟩; with_reducible rfl)))))); (try simp only [Act.put, List.setIfInBounds_toArray, List.set_cons_zero, List.set_cons_succ]))
              refine cq_nil ?_
              intro wq hq
              (try dsimp only at hq)
              go_wp2_with fail
              exact ⟨⟨j + 1, kk, rfl, by go_num, by omega, HPN, Mx.hid hq⟩, by simp [intOf]; omega⟩
            · have h1 : isIn (L.map (ndOf f)) M[j] = false := by
                cases h : isIn (L.map (ndOf f)) M[j] with
                | false => rfl
                | true => exact absurd (isIn_nd.1 h) hin
              rw [h1] at HHS
              rcases HPI.out.cases with rfl | ⟨c, rfl, hcM, hcj⟩
              · have HPN := Mx.hid (HPI.out.first hjl hin)
                clear h1 hin
                generalize stp f M[j] = sj at *
                generalize M[j] = y at *
                go_wp2_with fail
                refine wp_region_C (fun W' => St w W' (xR gx vi vp vs (L.map (ndOf f)) PV) Q) (by kernel_rfl) (by kernel_rfl) (by exact HS.out.drew) ?_
                repeat ((first | (refine cq_y0 (v := ?_) (by with_reducible rfl) ?_ ?_; rotate_left 1; (focus (intro wq hq; (try dsimp only at hq); (obtain ⟨y0, y1⟩ := HCJ.out _ hq); go_simp; (first | done | with_reducible rfl | (go_at_call 34; refine (HHS.out _ hq).mono ?_; rintro e w9 ⟨rfl, rfl⟩; refine ⟨?_, hq⟩; with_reducible rfl))))) | (refine cq_no (by go_simp; first | done | (intro h9; cases h9)) ?_) | (refine cq_yes (v := ?_) (by go_simp) ?_ ?_; rotate_left 1; (focus (intro wq hq; (try dsimp only at hq); (obtain ⟨y0, y1⟩ := HCJ.out _ hq); go_simp; (first | done | with_reducible rfl | (go_at_call 34; refine (HHS.out _ hq).mono ?_; rintro e w9 ⟨rfl, rfl⟩; refine ⟨?_, hq⟩; with_reducible rfl)))))); (try simp only [Act.put, List.setIfInBounds_toArray, List.set_cons_zero, List.set_cons_succ]))
                refine cq_nil ?_
                intro wq hq
                (try dsimp only at hq)
                go_wp2_with fail
                exact ⟨⟨j + 1, (j : Int), rfl, by go_num, by omega, HPN, Mx.hid hq⟩, by simp [intOf]; omega⟩
              · have HCC := Mx.hid (fun wx h => (HCK.out wx h c hcM).2)
                have q6 : decide ((c : Int) < 0) = false := decide_eq_false (by omega)
                have hci : (c : Int) < (M.length : Int) := by omega
                have hji : (j : Int) < (M.length : Int) := by omega
                by_cases hls : stp f M[j] < stp f M[c]
                · have d1 : decide (stp f M[j] < stp f M[c]) = true := decide_eq_true hls
                  have HPN := Mx.hid (HPI.out.less hjl hcM hin hls)
                  clear h1 hin hls HCK
                  generalize stp f M[j] = sj at *
                  generalize stp f M[c] = sc at *
                  generalize M[j] = y at *
                  go_wp2_with fail
                  refine wp_region_C (fun W' => St w W' (xR gx vi vp vs (L.map (ndOf f)) PV) Q) (by kernel_rfl) (by kernel_rfl) (by exact HS.out.drew) ?_
                  repeat ((first | (refine cq_y0 (v := ?_) (by with_reducible rfl) ?_ ?_; rotate_left 1; (focus (intro wq hq; (try dsimp only at hq); (obtain ⟨y0, y1⟩ := HCJ.out _ hq; have y2 := HCC.out _ hq); go_simp; (first | done | with_reducible rfl | (go_at_call 34; refine (HHS.out _ hq).mono ?_; rintro e w9 ⟨rfl, rfl⟩; refine ⟨?_, hq⟩; with_reducible rfl))))) | (refine cq_no (by go_simp; first | done | (intro h9; cases h9)) ?_) | (refine cq_yes (v := ?_) (by go_simp) ?_ ?_; rotate_left 1; (focus (intro wq hq; (try dsimp only at hq); (obtain ⟨y0, y1⟩ := HCJ.out _ hq; have y2 := HCC.out _ hq); go_simp; (first | done | with_reducible rfl | (go_at_call 34; refine (HHS.out _ hq).mono ?_; rintro e w9 ⟨rfl, rfl⟩; refine ⟨?_, hq⟩; with_reducible rfl)))))); (try simp only [Act.put, List.setIfInBounds_toArray, List.set_cons_zero, List.set_cons_succ]))
                  refine cq_nil ?_
                  intro wq hq
                  (try dsimp only at hq)
                  go_wp2_with fail
                  exact ⟨⟨j + 1, (j : Int), rfl, by go_num, by omega, HPN, Mx.hid hq⟩, by simp [intOf]; omega⟩
                · have d1 : decide (stp f M[j] < stp f M[c]) = false := decide_eq_false hls
                  have HPN := Mx.hid (HPI.out.more hjl hcM hls)
                  clear h1 hin hls HCK
                  generalize stp f M[j] = sj at *
                  generalize stp f M[c] = sc at *
                  generalize M[j] = y at *
                  go_wp2_with fail
                  refine wp_region_C (fun W' => St w W' (xR gx vi vp vs (L.map (ndOf f)) PV) Q) (by kernel_rfl) (by kernel_rfl) (by exact HS.out.drew) ?_
                  repeat ((first | (refine cq_y0 (v := ?_) (by with_reducible rfl) ?_ ?_; rotate_left 1; (focus (intro wq hq; (try dsimp only at hq); (obtain ⟨y0, y1⟩ := HCJ.out _ hq; have y2 := HCC.out _ hq); go_simp; (first | done | with_reducible rfl | (go_at_call 34; refine (HHS.out _ hq).mono ?_; rintro e w9 ⟨rfl, rfl⟩; refine ⟨?_, hq⟩; with_reducible rfl))))) | (refine cq_no (by go_simp; first | done | (intro h9; cases h9)) ?_) | (refine cq_yes (v := ?_) (by go_simp) ?_ ?_; rotate_left 1; (focus (intro wq hq; (try dsimp only at hq); (obtain ⟨y0, y1⟩ := HCJ.out _ hq; have y2 := HCC.out _ hq); go_simp; (first | done | with_reducible rfl | (go_at_call 34; refine (HHS.out _ hq).mono ?_; rintro e w9 ⟨rfl, rfl⟩; refine ⟨?_, hq⟩; with_reducible rfl)))))); (try simp only [Act.put, List.setIfInBounds_toArray, List.set_cons_zero, List.set_cons_succ]))
                  refine cq_nil ?_
                  intro wq hq
                  (try dsimp only at hq)
                  go_wp2_with fail
                  exact ⟨⟨j + 1, (c : Int), rfl, by go_num, by omega, HPN, Mx.hid hq⟩, by simp [intOf]; omega⟩
          case neg =>
            obtain rfl : j = M.length := by omega
            obtain ⟨c, hc, rfl, hnot, hmin⟩ := HPI.out.done HG.out.nod (by rw [HLI.out]; exact hlt)
            obtain ⟨ob, oo, mb, mo, pa, pc, rfl, rfl, a1, a2, b1, b2, k1, k2, k3, hmem, hp256⟩ := HCL.out _ _ _ HS.out HGB2.out.sub c hc
            have HBAD := Mx.hid (pick_bad (ids := ids) (most := most) HF.out HG.out HP.out hc hnot hmin)
            have HMORE := Mx.hid (HP.out.more (List.getElem_mem hc) hnot)
            have HAD := Mx.hid (fun wx (h : St w wx (xR gx vi vp vs (L.map (ndOf f)) PV) Q) => xadd_any gx vi vp vs (L.map (ndOf f)) PV M[c] (.slice pa (nbP f M[c]).length pc) (nbP f M[c]) (stp f M[c]) Q h hmem (by omega))
            have HGM := Mx.hid (fun (wx : World) (vi' vp' vs' u : Value) (h : St w wx (xR gx vi' vp' vs' (L.map (ndOf f) ++ [(M[c], uniqL (nbP f M[c]), stp f M[c])]) (PV ++ [u])) (⟨u, 1, (uniqL (nbP f M[c])).length, ss (uniqL (nbP f M[c]))⟩ :: Q)) => HGB2.out.more h)
            have hci : (c : Int) < (M.length : Int) := by omega
            have q5 : decide ((M.length : Int) < (M.length : Int)) = false := decide_eq_false (by omega)
            clear hnot hmin hmem HPI
            go_wp2_with fail
            clear HCL
            have HEX : Hid (∀ (e : Int), addE (L.map (ndOf f)) M[c] (nbP f M[c]) (stp f M[c]) = e → (e = 0 → Picked f M (L ++ [M[c]])) ∧ (e ≠ 0 → ¬ HasG f ids most)) := Mx.hid (fun e he => ⟨fun h => HMORE.out (he.trans h), fun h => HBAD.out (by rw [he]; exact h)⟩)
            clear HMORE HBAD
            generalize hnb : nbP f M[c] = ps at *
            generalize stp f M[c] = sz at *
            generalize M[c] = x at *
            clear hnb
            have hS := HS.out.drew
            go_still_tail 15, (by kernel_rfl)
            change wpList _ _ _ _ _ wr.drew
            clear k1 k2 k3
            generalize wr.drew = w3 at hS ⊢
            go_wp2_with fail
            refine (HAD.out _ hS).mono ?_
            intro e w4 hpost
            obtain ⟨rfl, hp⟩ := hpost
            generalize hae : addE (L.map (ndOf f)) x ps sz = er at *
            have HER := Mx.hid (HEX.out er rfl)
            clear hae HEX HAD
            rcases hp with ⟨h0, hs4⟩ | ⟨h0, vi', vp', vs', u, hs4⟩
            · have q6 : decide (er = 0) = false := decide_eq_false h0
              have q7 : (er == 0) = false := by simpa using h0
              have HNO := Mx.hid (HER.out.2 h0)
              clear h0 HER
              go_wp2_with (at_builtin; refine wpl_app rfl _ _ 38 rfl Tryz.elEr ((hs4.bare.addNil 34 1).alloc _) rfl (by exact Sl.one _ _ _) (by intro u hu; simp at hu; subst hu; rfl) (by omega) ?_; intro ve w5 he _)
              obtain ⟨ea, ec, rfl, -⟩ := id he.sl0
              exact ⟨⟨i + 1, L, by go_num, by omega, .inr ⟨ea, ec, rfl, Mx.hid ⟨he.cast rfl rfl, HNO.out⟩⟩⟩, by simp [intOf]; omega⟩
            · subst h0
              have HPK := Mx.hid (HER.out.1 rfl)
              clear HER
              go_wp2_with fail
              exact ⟨⟨i + 1, L ++ [x], by go_num, by omega, .inl ⟨rfl, by simp [HLI.out], HPK, Mx.hid ⟨_, _, _, _, _, HGM.out _ _ _ _ _ hs4⟩⟩⟩, by simp [intOf]; omega⟩
end Go.Proofs.YtloogjdafhjheaaGreat
