/- Walks of dag's Tops, Bases. -/
import Derived.Test.YtojbdlbcaoeffaaDagN
import Derived.Test.YtojbdlbcaoeffaaDagA
namespace Go.Mx
open Go Go.RowKit
/-- Those of a set that are no other one's parents. -/
def Near (L : List Nd) (S N : List ByteArray) : Prop := ∀ x, x ∈ N ↔ x ∈ S ∧ ∀ m ∈ S, ∀ n, fnd L m = some n → x ∉ n.1
def TopsPost (L : List Nd) (ids : List ByteArray) (w : World) (e : Ending) (w' : World) : Prop :=
  (∃ v N M, e = .returned (.tuple #[v, .int .i64 0]) ∧ St w w' [⟨v, 9, 1, N.length, ss N⟩] [] ∧ Strict N ∧ N.length ≤ 2000 ∧ Clo L ids M ∧ Near L M N) ∨
  (e = .returned (.tuple #[.slice none 0 0, .int .i64 7]) ∧ St w w' [] [] ∧ ∃ i ∈ ids, fnd L i = none)
def BasesPost (L : List Nd) (ids : List ByteArray) (b : ByteArray) (w : World) (e : Ending) (w' : World) : Prop :=
  (∃ v N S Ma Mb, e = .returned (.tuple #[v, .int .i64 0]) ∧ St w w' [⟨v, 9, 1, N.length, ss N⟩] [] ∧ Strict N ∧ N.length ≤ 2000 ∧ Clo L ids Ma ∧ Clo L [b] Mb ∧ (∀ x, x ∈ S ↔ x ∈ Ma ∧ x ∈ Mb) ∧ Near L S N) ∨
  (e = .returned (.tuple #[.slice none 0 0, .int .i64 7]) ∧ St w w' [] [] ∧ ((∃ i ∈ ids, fnd L i = none) ∨ fnd L b = none))
theorem Clo.isin {L : List Nd} (hw : WF L) {ids M : List ByteArray} (h : Clo L ids M) : ∀ m ∈ M, ∃ n, fnd L m = some n := by
  intro m hm
  obtain ⟨i, hi, ha⟩ := (h.2 m).1 hm
  obtain ⟨n, hn⟩ := h.1 i hi
  obtain ⟨q, hq, _⟩ := ha.mem hw hn
  exact ⟨q, hq⟩
end Go.Mx
namespace Go.Proofs.Ytojbdlbcaoeffaa
open Go.RowKit Go.Mx

set_option maxRecDepth 100000 in
theorem tops_g (g B : Nat) (G : List Gd) (v : Value) (ids : List ByteArray) (w : World) (h : GR w g B G) (hw : WF (G.map (·.2))) (hv : Sl w 1 v ids.length (ss ids)) (hl : ids.length ≤ 1000000) :
    Calls Try.prog 16 #[.pointer (some ⟨g, 0, none⟩), v] w (TopsPost (G.map (·.2)) ids w) := by
  have HR := Mx.hid (reach_g g B G v ids w h hw hv hl)
  have HG := Mx.hid (fun w' (hs : St w w' [] []) => h.st hs)
  have HW := Mx.hid hw
  obtain ⟨ao, cap, rfl, _⟩ := hv.form
  clear h hw hv hl
  go_enter Try.func16, Try.ntmps16
  go_wp2_with fail
  refine HR.out.mono ?_
  rintro e w1 (⟨B2, M, rfl, hm, hb, hc, hnd, hl, hs⟩ | ⟨rfl, hx, hs⟩)
  · have HN := Mx.hid (nearest_g g B G B2 M w1 (HG.out _ hs) hm hnd hl (hc.isin HW.out))
    have HC := Mx.hid hc
    clear hc hnd hm
    go_wp2_with fail
    refine HN.out.mono ?_
    rintro e w2 ⟨v2, N, rfl, h2, hst, hnl, hN⟩
    have HX := Mx.hid (And.intro hst hN)
    clear hst hN
    go_wp2_with fail
    go_ret2
    exact .inl ⟨v2, N, M, rfl, hs.call h2, HX.out.1, hnl, HC.out, HX.out.2⟩
  · have HX := Mx.hid hx
    clear hx
    go_wp2_with fail
    go_ret2
    exact .inr ⟨rfl, hs, HX.out⟩

set_option maxRecDepth 100000 in
set_option maxHeartbeats 1000000 in
theorem bases_g (g B : Nat) (G : List Gd) (v : Value) (ids : List ByteArray) (b : ByteArray) (w : World) (h : GR w g B G) (hw : WF (G.map (·.2))) (hv : Sl w 1 v ids.length (ss ids)) (hl : ids.length ≤ 1000000) :
    Calls Try.prog 10 #[.pointer (some ⟨g, 0, none⟩), v, .string b] w (BasesPost (G.map (·.2)) ids b w) := by
  have HR := Mx.hid (reach_g g B G v ids w h hw hv hl)
  have HG := Mx.hid (fun w' (hs : St w w' [] []) => h.st hs)
  have HW := Mx.hid hw
  have HR2 := Mx.hid (fun w' v' (hs : St w w' [] []) (hv : Sl w' 1 v' 1 [.string b]) => reach_g g B G v' [b] w' (h.st hs) hw hv (by simp))
  obtain ⟨ao, cap, rfl, _⟩ := hv.form
  have hmk := @run_makeMap Try.prog
  clear h hw hv hl
  go_enter Try.func10, Try.ntmps10
  go_wp2_with fail
  refine HR.out.mono ?_
  rintro e w1 (⟨B2, M, rfl, hm, hb, hc, hnd, hl, hs⟩ | ⟨rfl, hx, hs⟩)
  · have HC := Mx.hid (And.intro hc (And.intro hnd hl))
    clear hc hnd
    have hs2 := hs.made #[.string b] 9 1 1 (by rfl) (by simp [maxLen])
    have HRB := Mx.hid (HR2.out _ _ hs2.bare hs2.sl0)
    have HS2 := Mx.hid hs2.bare
    have HM2 := Mx.hid (hm.grow ((Below.refl _ _).alloc (Nat.le_refl _) (.cells #[.string b] 9)))
    clear hs2 hm
    go_wp2_with fail
    refine HRB.out.mono ?_
    rintro e w2 (⟨B3, M3, rfl, hm3, hb3, hc3, hnd3, hl3, hs3⟩ | ⟨rfl, hx, hs3⟩)
    · have HC3 := Mx.hid hc3
      have hmm := HM2.out.grow hs3.below
      have hs4 := HS2.out.call0 hs3
      have HLTB := Mx.hid (And.intro hmm.lt hm3.lt)
      have HCM := Mx.hid (Mp.made w2)
      have HM4 := Mx.hid (hmm.grow ((Below.refl _ _).alloc (Nat.le_refl _) (.map #[] 0)))
      have HM5 := Mx.hid (hm3.grow ((Below.refl _ _).alloc (Nat.le_refl _) (.map #[] 0)))
      have HS5 := Mx.hid (hs4.alloc (.map #[] 0))
      have HSZ := Mx.hid (show (w2.alloc (.map #[] 0)).heap.size = w2.heap.size + 1 from heap_size_alloc _ _)
      have HWZ := Mx.hid (show w.heap.size ≤ w2.heap.size from Nat.le_trans HS2.out.size hs3.size)
      clear hc3 hmm hm3 hs4 hs3 hb3 hnd3 hl3
      go_wp2_with ((with_reducible show wpList _ _ _ _ _ _); refine wpl_mrange rfl 54 _ rfl Try.underlying54 HM4.out rfl ?_; intro w3 hrg hbl hsz)
      rw [HSZ.out] at hrg hbl hsz
      try rw [HSZ.out]
      have hs6 : St w w3 [] [] := HS5.out.grow (by rw [HSZ.out]; exact hbl)
      have hm6 : Mp w3 B3 (met M3) := HM5.out.grow (by rw [HSZ.out]; exact hbl)
      have hcm : Mp w3 w2.heap.size (met []) := HCM.out.grow (by rw [HSZ.out]; exact hbl)
      have hwz : w.heap.size ≤ w2.heap.size := HWZ.out
      obtain ⟨C, hC⟩ : ∃ C, C = w2.heap.size := ⟨_, rfl⟩
      have HCC := Mx.hid (show w.heap.size ≤ C ∧ B2 < C ∧ B3 < C from ⟨by rw [hC]; exact hwz, by rw [hC]; exact HLTB.out.1, by rw [hC]; exact HLTB.out.2⟩)
      rw [← hC] at hrg hcm ⊢
      clear hC hwz hsz hbl HLTB HCM HM4 HM5 HS5 HSZ
      try go_frame
      go_loopg [12] M.length (fun kk y wr => ∃ (left : List Ent) (done S : List ByteArray), Hid (left.length ≤ kk) ∧ Hid (M.Perm (done ++ left.map Prod.fst)) ∧ Hid (S.Nodup ∧ ∀ x, x ∈ S ↔ x ∈ done ∧ x ∈ M3) ∧ Rg wr (C + 1) B2 (met M) left ∧ Mp wr B3 (met M3) ∧ Mp wr C (met S) ∧ St w wr [] [])
      case atStart => exact ⟨met M, [], [], Mx.hid (by simp [met]), Mx.hid (by rw [met_fst]; exact List.Perm.refl _), Mx.hid ⟨List.nodup_nil, by simp⟩, hrg, hm6, hcm, hs6⟩
      case round =>
        clear hrg hm6 hcm hs6
        obtain ⟨left, done, S, HK, HP, HX, hrg, hm3, hcm, hs⟩ := hrel
        obtain ⟨hc1, hc2, hc3⟩ := HCC.out
        rcases run_mnext' (P := Try.prog) hrg with ⟨rfl, hn⟩ | ⟨p, left', w4, hperm, hn, hrg2, hgr, hsz, hen⟩
        · have HP2 := Mx.hid (show M.Perm done by simpa using HP.out)
          have hSM : ∀ x ∈ S, x ∈ M := fun x hx => HP2.out.mem_iff.2 ((HX.out.2 x).1 hx).1
          have HNE := Mx.hid (nearest_g g B G C S wr (HG.out _ hs) hcm HX.out.1 (Nat.le_trans (nodup_sub HX.out.1 hSM) HC.out.2.2) (fun m hm => HC.out.1.isin HW.out m (hSM m hm)))
          clear hrg hcm hm3 HP hSM
          go_wp2_with fail
          refine HNE.out.mono ?_
          rintro e w5 ⟨v2, N, rfl, h2, hst, hnl, hN⟩
          have HXX := Mx.hid (And.intro hst hN)
          clear hst hN
          go_wp2_with fail
          go_ret2
          refine .inl ⟨v2, N, S, M, M3, rfl, hs.call h2, HXX.out.1, hnl, HC.out.1, HC3.out, fun x => ?_, HXX.out.2⟩
          rw [HX.out.2 x, HP2.out.mem_iff]
        · have hs2 := hs.other hrg.noRow (by omega) hgr
          have hm3' := hm3.kept hgr (by intro e; have := Option.some.inj e; omega)
          have hcm' := hcm.kept hgr (by intro e; have := Option.some.inj e; omega)
          obtain ⟨p1, p2⟩ := p
          simp only [] at hn hen
          have HP2 := Mx.hid (perm_step HP.out hperm)
          have HPN := Mx.hid (show p1 ∉ done from fun hd => by
            have h1 := (HP2.out.nodup_iff).1 HC.out.2.1
            rw [List.append_assoc, List.nodup_append] at h1
            exact h1.2.2 p1 hd p1 (by simp) rfl)
          have HK2 := Mx.hid (show left'.length < gk by have h1 := HK.out; have h2 := hperm.length_eq; simp at h2; omega)
          clear hrg hgr hsz hperm HK HP hm3 hcm hs
          cases hmb : memB M3 p1 with
          | true =>
            have HLK := Mx.hid (show mget (met M3) p1 = some (.int .i64 1) by rw [mget_met, if_pos hmb])
            have HSN := Mx.hid (show p1 ∉ S from fun h => HPN.out ((HX.out.2 p1).1 h).1)
            have HMB := Mx.hid (memB_iff.1 hmb)
            have HRG := Mx.hid hrg2
            have HM3 := Mx.hid hm3'
            clear hmb hrg2
            go_wp2_with (first | ((with_reducible show wpList _ _ _ _ _ _); refine wpl_look rfl 54 _ _ true rfl Try.underlying54 Try.underlying9 Try.zeroInt (by exact hm3') rfl p1 rfl ?_; rw [HLK.out]) | ((with_reducible show wpList _ _ _ _ _ _); refine wpl_mset rfl 54 _ _ _ rfl Try.underlying54 Try.underlying9 hcm' hs2 hc1 rfl p1 rfl ?_; intro w5 hm5 hs5 hg5 hz5))
            go_roundg left'.length
            case measure => exact HK2.out
            case rel =>
              have hm6 : Mp w5 C (mset (met S) p1 (.int .i64 1)) := hm5
              rw [mset_met HSN.out] at hm6
              refine ⟨left', done ++ [p1], S ++ [p1], Mx.hid (Nat.le_refl _), HP2, Mx.hid ⟨?_, fun x => ?_⟩, HRG.out.kept hg5 (by intro e; have := Option.some.inj e; omega) (by intro e; have := Option.some.inj e; omega), HM3.out.kept hg5 (by intro e; have := Option.some.inj e; omega), hm6, hs5⟩
              · rw [List.nodup_append]
                exact ⟨HX.out.1, by simp, fun a ha b hb e => by rw [List.mem_singleton.1 hb] at e; exact HSN.out (e ▸ ha)⟩
              · rw [List.mem_append, List.mem_append, HX.out.2 x, List.mem_singleton]
                constructor
                · rintro (⟨h1, h2⟩ | rfl)
                  · exact ⟨.inl h1, h2⟩
                  · exact ⟨.inr rfl, HMB.out⟩
                · rintro ⟨h1 | rfl, h2⟩
                  · exact .inl ⟨h1, h2⟩
                  · exact .inr rfl
          | false =>
            have HLK := Mx.hid (show mget (met M3) p1 = none by rw [mget_met, if_neg (by simp [hmb])])
            have HMB := Mx.hid (show p1 ∉ M3 from fun h => by rw [memB_iff.2 h] at hmb; cases hmb)
            clear hmb
            go_wp2_with ((with_reducible show wpList _ _ _ _ _ _); refine wpl_look rfl 54 _ _ true rfl Try.underlying54 Try.underlying9 Try.zeroInt (by exact hm3') rfl p1 rfl ?_; rw [HLK.out])
            go_roundg left'.length
            case measure => exact HK2.out
            case rel =>
              refine ⟨left', done ++ [p1], S, Mx.hid (Nat.le_refl _), HP2, Mx.hid ⟨HX.out.1, fun x => ?_⟩, hrg2, hm3', hcm', hs2⟩
              rw [HX.out.2 x, List.mem_append, List.mem_singleton]
              constructor
              · rintro ⟨h1, h2⟩; exact ⟨.inl h1, h2⟩
              · rintro ⟨h1 | rfl, h2⟩
                · exact ⟨h1, h2⟩
                · exact absurd h2 HMB.out
    · have HX := Mx.hid hx
      clear hx
      go_wp2_with fail
      go_ret2
      refine .inr ⟨rfl, HS2.out.call0 hs3, .inr ?_⟩
      obtain ⟨i, hi, hn⟩ := HX.out
      rwa [List.mem_singleton.1 hi] at hn
  · have HX := Mx.hid hx
    clear hx
    go_wp2_with fail
    go_ret2
    exact .inr ⟨rfl, hs, .inl HX.out⟩
end Go.Proofs.Ytojbdlbcaoeffaa
