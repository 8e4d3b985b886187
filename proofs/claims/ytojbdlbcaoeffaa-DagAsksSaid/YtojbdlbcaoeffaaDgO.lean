/- Walks of the document's Bases and Order. -/
import Derived.Test.YtojbdlbcaoeffaaDgT
import Derived.Test.YtojbdlbcaoeffaaRegC
namespace Go.Mx
open Go Go.RowKit
/-- The later first: by falling stamps. -/
def fS (L : List Nd) (x : ByteArray) : Int := - stampL L x
def XOrdPost (L : List Nd) (ids : List ByteArray) (w : World) (e : Ending) (w' : World) : Prop :=
  (∃ v M l, e = .returned (.tuple #[v, .int .i64 0]) ∧ St w w' [⟨v, 9, 1, l.length, ss l⟩] [] ∧ Clo L ids M ∧ Strict M ∧ l.Perm M ∧ l.Pairwise (OrdR (fS L))) ∨
  (e = .returned (.tuple #[.slice none 0 0, .int .i64 7]) ∧ St w w' [] [] ∧ ∃ i ∈ ids, fnd L i = none)
theorem fS_kO {L : List Nd} {x : ByteArray} (h : ∃ n, fnd L x = some n) : kO L x = fS L x := by
  obtain ⟨n, hn⟩ := h
  unfold kO fS sV stampL
  rw [hn]
theorem ord_kO {L : List Nd} {l : List ByteArray} (hin : ∀ x ∈ l, ∃ n, fnd L x = some n) (h : l.Pairwise (OrdR (kO L))) : l.Pairwise (OrdR (fS L)) := by
  refine h.imp_of_mem fun {a b} ha hb hab => ?_
  unfold OrdR at hab ⊢
  rw [fS_kO (hin a ha), fS_kO (hin b hb)] at hab
  exact hab
theorem perm_ins {O T : List ByteArray} {x : ByteArray} {k : Nat} (h : O.Perm T) : (O.take k ++ ([x] ++ O.drop k)).Perm (T ++ [x]) := by
  have h1 : (O.take k ++ ([x] ++ O.drop k)).Perm (x :: (O.take k ++ O.drop k)) := List.perm_middle
  rw [List.take_append_drop] at h1
  exact h1.trans ((h.cons x).trans (List.perm_append_comm (l₁ := [x]) (l₂ := T)))
end Go.Mx
namespace Go.Proofs.Ytojbdlbcaoeffaa
open Go.RowKit Go.Mx

set_option maxRecDepth 100000 in
set_option maxHeartbeats 4000000 in
theorem xbases_any (x : Nat) (vi vp vs : Value) (L : List Nd) (PV : List Value) (v : Value) (ids : List ByteArray) (b : ByteArray) (w : World) (h : XG w x vi vp vs L PV) (hw : WF L) (hL : L.length ≤ 2000) (hpl : ∀ n ∈ L, n.2.1.length ≤ 1000000) (hv : Sl w 1 v ids.length (ss ids)) (hl : ids.length ≤ 1000000) :
    Calls Try.prog 32 #[.pointer (some ⟨x, 0, none⟩), v, .string b] w (XBasesPost L ids b w) := by
  have HAN := Mx.hid (fun v' l' w' R Q (hs : St w w' R Q) (hv' : Sl w' 1 v' l'.length (ss l')) (hl' : l'.length ≤ 1000000) => xanc_any x vi vp vs L PV v' l' w' (h.old hs) hw hL hv' hl')
  have HTO := Mx.hid (fun v' l' w' R Q (hs : St w w' R Q) (hv' : Sl w' 1 v' l'.length (ss l')) (hl' : l'.length ≤ 1000000) => xtops_any x vi vp vs L PV v' l' w' (h.old hs) hw hL hpl hv' hl')
  have HW := Mx.hid hw
  have HV := Mx.hid hv
  obtain ⟨ao, cap, rfl, _⟩ := hv.form
  clear h hw hv hpl
  go_enter Try.func32, Try.ntmps32
  go_wp2_with fail
  refine (HAN.out _ ids _ _ _ (St.refl w) HV.out hl).mono ?_
  rintro e w1 he1
  have hex1 : ∃ (va : Value) (Ma : List ByteArray) (ea : Int), e = .returned (.tuple #[va, .int .i64 ea]) ∧ St w w1 [⟨va, 9, 1, Ma.length, ss Ma⟩] [] ∧ ((ea = 0 ∧ Clo L ids Ma ∧ Strict Ma) ∨ (ea = 7 ∧ ∃ i ∈ ids, fnd L i = none)) := by
    rcases he1 with ⟨va, Ma, rfl, hs, hc, hst⟩ | ⟨rfl, hs, hno⟩
    · exact ⟨va, Ma, 0, rfl, hs, .inl ⟨rfl, hc, hst⟩⟩
    · exact ⟨_, [], 7, rfl, hs.addNil _ _, .inr ⟨rfl, hno⟩⟩
  obtain ⟨va, Ma, ea, rfl, hs1, hA⟩ := hex1
  clear he1
  obtain ⟨a1, a2, rfl, _⟩ := id hs1.sl0
  have hs2 := hs1.freeze.made #[.string b] 9 1 1 (by rfl) (by simp [maxLen])
  simp only [] at hs2
  have HB := Mx.hid (HAN.out _ [b] _ _ _ hs2 hs2.sl0 (by simp))
  have hs2 := hs2.freeze
  simp only [] at hs2
  clear hs1
  go_wp2_with fail
  refine HB.out.mono ?_
  rintro e w2 he2
  have hex2 : ∃ (vb : Value) (Mb : List ByteArray) (eb : Int), e = .returned (.tuple #[vb, .int .i64 eb]) ∧ St (w1.alloc (.cells #[.string b] 9)) w2 [⟨vb, 9, 1, Mb.length, ss Mb⟩] [] ∧ ((eb = 0 ∧ Clo L [b] Mb ∧ Strict Mb) ∨ (eb = 7 ∧ fnd L b = none)) := by
    rcases he2 with ⟨va, Ma, rfl, hs, hc, hst⟩ | ⟨rfl, hs, i, hi, hno⟩
    · exact ⟨va, Ma, 0, rfl, hs, .inl ⟨rfl, hc, hst⟩⟩
    · exact ⟨_, [], 7, rfl, hs.addNil _ _, .inr ⟨rfl, by rw [List.mem_singleton.1 hi] at hno; exact hno⟩⟩
  obtain ⟨vb, Mb, eb, rfl, hs3, hB⟩ := hex2
  clear he2 HB
  obtain ⟨b1, b2, rfl, _⟩ := id hs3.sl0
  have hs4 := (hs2.call1 hs3).freeze
  simp only [] at hs4
  clear hs2 hs3
  rcases hA with ⟨rfl, hcA, hsA⟩ | ⟨rfl, hno⟩
  · rcases hB with ⟨rfl, hcB, hsB⟩ | ⟨rfl, hno⟩
    · have HCA := Mx.hid hcA
      have HCB := Mx.hid hcB
      have hal := clo_short HW.out hcA hsA
      clear hcA hsA hcB hsB
      have HBQ := Mx.hid hs4.q0
      obtain ⟨_, _, mb, mf, hvv, _, m2, _, hmc⟩ := (show Sl w2 1 (.slice a1 Ma.length a2) Ma.length (ss Ma) from hs4.q2).txt
      cases hvv
      have HM := Mx.hid hmc
      have HK := Mx.hid hs4.bare
      clear hmc
      have hs5 := (St.refl w2).addNil 9 1
      go_wp2_with fail
      go_loopw [12, 13] (fun q y wr => ∃ (i : Nat) (S : List ByteArray), y = .int .i64 i ∧ i ≤ Ma.length ∧ Hid (∀ x, x ∈ S ↔ x ∈ Ma.take i ∧ x ∈ Mb) ∧ S.length ≤ i ∧ St w2 wr [⟨q, 9, 1, S.length, ss S⟩] []) (fun _ y _ => Ma.length - (intOf y).toNat)
      case atStart => exact ⟨0, [], rfl, by omega, by simp [Hid], by simp, hs5⟩
      case round =>
        clear hs5 hs4
        obtain ⟨i, S, rfl, hi, HS, hsl, hs⟩ := hrel
        obtain ⟨qo, qc, rfl, _⟩ := id hs.sl0
        by_cases hlt : i < Ma.length
        · obtain ⟨rfl, d0⟩ := HM.out i hlt
          replace d0 := hs.keep d0
          have HT := Mx.hid (has_any _ Mb wr (hs.old HBQ.out) Ma[i])
          have HTK := Mx.hid (List.take_succ_eq_append_getElem hlt)
          by_cases hm : Ma[i] ∈ Mb
          · rw [hasT_iff.2 hm] at HT
            have HMM := Mx.hid hm
            clear hm
            generalize Ma[i] = d at *
            go_wp2_with (first | (go_at_call 17; refine HT.out.mono ?_; rintro e w9 ⟨rfl, rfl⟩) | (at_builtin; refine wpl_app rfl _ _ 26 rfl Try.elStr (hs.alloc _) rfl (by exact Sl.one _ _ _) (by intro u hu; simp at hu; subst hu; rfl) (by omega) ?_; intro v3 w3 hs3 _))
            refine ⟨⟨i + 1, S ++ [d], by go_num, by omega, ?_, by simp; omega, hs3.cast (by simp) (by rw [ss_app]; rfl)⟩, by simp [intOf]; omega⟩
            show ∀ x, _
            intro x
            rw [HTK.out, List.mem_append, List.mem_append, HS.out x, List.mem_singleton]
            constructor
            · rintro (⟨h1, h2⟩ | rfl)
              · exact ⟨.inl h1, h2⟩
              · exact ⟨.inr rfl, HMM.out⟩
            · rintro ⟨h1 | rfl, h2⟩
              · exact .inl ⟨h1, h2⟩
              · exact .inr rfl
          · rw [hasT_not.2 hm] at HT
            have HMM := Mx.hid hm
            clear hm
            generalize Ma[i] = d at *
            go_wp2_with (go_at_call 17; refine HT.out.mono ?_; rintro e w9 ⟨rfl, rfl⟩)
            refine ⟨⟨i + 1, S, by go_num, by omega, ?_, by omega, hs⟩, by simp [intOf]; omega⟩
            show ∀ x, _
            intro x
            rw [HTK.out, List.mem_append, HS.out x, List.mem_singleton]
            constructor
            · rintro ⟨h1, h2⟩
              exact ⟨.inl h1, h2⟩
            · rintro ⟨h1 | rfl, h2⟩
              · exact ⟨h1, h2⟩
              · exact absurd h2 HMM.out
        · rw [List.take_of_length_le (show Ma.length ≤ i by omega)] at HS
          have HT := Mx.hid (HTO.out _ S _ _ _ (HK.out.call hs) hs.sl0 (by omega))
          have hk := HK.out.call0 hs.bare
          have HCS := Mx.hid (clo_inter HCA.out HCB.out HW.out HS.out)
          clear hs
          go_wp2_with fail
          refine HT.out.mono ?_
          rintro e w5 (⟨vn, N, rfl, hn, hst, _, hnear⟩ | ⟨_, _, j, hj, hno⟩)
          · go_wp2_with fail
            go_ret2
            exact .inl ⟨vn, N, S, Ma, Mb, rfl, (hk.call hn).sub (by simp) (by simp), hst, HCA.out, HCB.out, HS.out, hnear S HCS.out⟩
          · obtain ⟨n, hn⟩ := HCS.out.1 j hj
            rw [hn] at hno
            cases hno
    · have hk := hs4.bare
      have HNO := Mx.hid hno
      clear hs4 hno hcA hsA
      go_wp2_with fail
      go_ret2
      exact .inr ⟨rfl, hk, .inr HNO.out⟩
  · have hk := hs4.bare
    have HNO := Mx.hid hno
    clear hs4 hno hB
    go_wp2_with fail
    go_ret2
    exact .inr ⟨rfl, hk, .inl HNO.out⟩
end Go.Proofs.Ytojbdlbcaoeffaa
