/- Walk of the document's Ancestors; Is. -/
import Derived.Test.YtojbdlbcaoeffaaDgM
import Derived.Test.YtojbdlbcaoeffaaPerm
import Derived.Test.YtojbdlbcaoeffaaSrtG
namespace Go.Mx
open Go Go.RowKit
theorem is_set' (l : List Int) (i : Nat) (x : Int) : (is l).take i ++ [Value.int .i64 x] ++ (is l).drop (i + 1) = if i < l.length then is (l.set i x) else (is l).take i ++ [Value.int .i64 x] ++ (is l).drop (i + 1) := by
  split
  · rename_i h
    rw [is, is, List.map_set, List.set_eq_take_append_cons_drop, if_pos (by simpa using h)]
    simp
  · rfl
theorem flg_put {L : List Nd} (hn : (L.map Prod.fst).Nodup) {S : List ByteArray} {j : Nat} (hj : j < L.length) : (is (flg L S)).take j ++ [Value.int .i64 1] ++ (is (flg L S)).drop (j + 1) = is (flg L (S ++ [L[j].1])) := by
  rw [is_set', if_pos (by rw [flg_len]; exact hj), flg_set hn hj]
theorem flg_cell {L : List Nd} {S : List ByteArray} {j : Nat} (hj : j < L.length) {z : Int} (hz : z = if memB S L[j].1 = true then 1 else 0) : (is (flg L S))[j]? = some (.int .i64 z) := by
  have h : j < (flg L S).length := by rw [flg_len]; exact hj
  rw [is, List.getElem?_map, List.getElem?_eq_getElem h, flg_get hj, hz]
  rfl
/-- What Ancestors leaves. -/
def XAncPost (L : List Nd) (ids : List ByteArray) (w : World) (e : Ending) (w' : World) : Prop :=
  (∃ v M, e = .returned (.tuple #[v, .int .i64 0]) ∧ St w w' [⟨v, 9, 1, M.length, ss M⟩] [] ∧ Clo L ids M ∧ Strict M) ∨
  (e = .returned (.tuple #[.slice none 0 0, .int .i64 7]) ∧ St w w' [] [] ∧ ∃ i ∈ ids, fnd L i = none)
end Go.Mx
namespace Go.Proofs.Ytojbdlbcaoeffaa
open Go.RowKit Go.Mx

set_option maxRecDepth 100000 in
set_option maxHeartbeats 4000000 in
theorem xanc_any (x : Nat) (vi vp vs : Value) (L : List Nd) (PV : List Value) (v : Value) (ids : List ByteArray) (w : World) (h : XG w x vi vp vs L PV) (hw : WF L) (hL : L.length ≤ 2000) (hv : Sl w 1 v ids.length (ss ids)) (hl : ids.length ≤ 1000000) :
    Calls Try.prog 31 #[.pointer (some ⟨x, 0, none⟩), v] w (XAncPost L ids w) := by
  have HH := Mx.hid (fun k w' R Q (hs : St w w' R Q) => xhas_any x vi vp vs L PV k w' (h.old hs))
  have HAT := Mx.hid (fun k w' R Q (hs : St w w' R Q) => at_x x vi vp vs L PV k w' (h.old hs))
  have c0 := h.c0
  have c1 := h.c1
  have HC0 := Mx.hid c0
  have HC1 := Mx.hid c1
  have HW := Mx.hid hw
  obtain ⟨io, ic, ib, iof, rfl, i1, i2, hci⟩ := ids_of h.si
  obtain ⟨po, pc, pb, pof, rfl, p1, p2, hcp⟩ := h.pars
  obtain ⟨ao, cap, blk, off, rfl, h1, h2, _, hcc⟩ := hv.txt
  have HCI := Mx.hid hci
  have HCP := Mx.hid hcp
  have HC := Mx.hid hcc
  clear h hw hv hci hcp hcc
  obtain ⟨C, hC, hmk⟩ := run_make_rep (P := Try.prog) (t := 48) (e := 3) (z := .int .i64 0) (bytes := 8) Try.underlying48 (by kernel_rfl) rfl (by omega) L.length (by omega)
  have hmk2 := hmk (L.length : Int) rfl
  have hCs : C.size = L.length * 1 := by have := congrArg List.length hC; simpa using this
  have hsA := (St.refl w).madeAt C 3 1 L.length w.heap.size hCs (by unfold maxLen; omega) rfl
  have HSA := Mx.hid (hsA.cast rfl (show _ = is (flg L []) by rw [hC, flg_nil]; simp [is]))
  clear hmk hsA hCs hC
  go_enter Try.func31, Try.ntmps31
  go_wp2_with fail
  clear hmk2 c0
  generalize w.heap.size = ga at *
  generalize w.alloc (.cells C 3) = wa at *
  go_loopw [7] (fun y wr => ∃ i : Nat, y = .int .i64 i ∧ i ≤ ids.length ∧ Hid (∀ d ∈ ids.take i, d ∈ L.map Prod.fst) ∧ St w wr [(⟨.slice (some ⟨ga, 0, none⟩) L.length L.length, 3, 1, L.length, is (flg L (ids.take i))⟩ : Row)] []) (fun y _ => ids.length - (intOf y).toNat)
  case atStart => exact ⟨0, rfl, by omega, by simp [Hid], HSA.out⟩
  case round =>
    obtain ⟨i, rfl, hi, HIN, hs⟩ := hrel
    by_cases hlt : i < ids.length
    · obtain ⟨rfl, d0⟩ := HC.out i hlt
      replace d0 := hs.keep d0
      have HX := Mx.hid (HH.out ids[i] _ _ _ hs)
      have HT := Mx.hid (HAT.out ids[i] _ _ _ hs)
      have HTK := Mx.hid (List.take_succ_eq_append_getElem hlt)
      have HMEM := Mx.hid (List.getElem_mem hlt)
      rcases ixL_cases L ids[i] with ⟨j, hj, e1, e2, e3⟩ | ⟨e1, e2, e3⟩
      · rw [show isIn L ids[i] = true by unfold isIn; rw [e3]; rfl] at HX
        rw [e2] at HT
        have HIN2 : Hid (∀ d ∈ ids.take (i + 1), d ∈ L.map Prod.fst) := Mx.hid (by
          rw [HTK.out]
          intro d hd
          rcases List.mem_append.1 hd with hd | hd
          · exact HIN.out d hd
          · rw [List.mem_singleton.1 hd, ← e1]
            exact List.mem_map.2 ⟨_, List.getElem_mem hj, rfl⟩)
        have HP := Mx.hid (flg_put (S := ids.take i) (wf_nodup HW.out) hj)
        rw [e1, ← HTK.out] at HP
        have hjl : j < (is (flg L (ids.take i))).length := by simp [is, flg_len, hj]
        have hjj : (j : Int) < (L.length : Int) := by omega
        clear e1 e2 e3
        generalize ids[i] = d at *
        go_wp2_with (first | (go_at_call 28; refine HX.out.mono ?_; rintro e w9 ⟨rfl, rfl⟩) | (go_at_call 43; refine HT.out.mono ?_; rintro e w9 ⟨rfl, rfl⟩) | ((with_reducible show wpList _ _ _ _ _ _); refine wpl_store1 rfl 3 _ _ rfl hs (j) rfl (.int .i64 1) rfl rfl (by kernel_rfl) hjl rfl ?_; intro w2 hs2))
        exact ⟨⟨i + 1, by go_num, by omega, HIN2, hs2.cast rfl HP.out⟩, by simp [intOf]; omega⟩
      · rw [show isIn L ids[i] = false by unfold isIn; rw [e3]; rfl] at HX
        have HE3 := Mx.hid e3
        clear e1 e2 e3
        generalize ids[i] = d at *
        go_wp2_with (go_at_call 28; refine HX.out.mono ?_; rintro e w9 ⟨rfl, rfl⟩)
        go_ret2
        exact .inr ⟨rfl, hs.bare, _, HMEM.out, HE3.out⟩
    · have HIA := Mx.hid (AI.start (L := L) (ids := ids) (by have := HIN.out; rwa [List.take_of_length_le (by omega)] at this))
      rw [List.take_of_length_le (show ids.length ≤ i by omega)] at hs
      have c0 := hs.keep HC0.out
      have hs0 := hs.addNil 9 1
      go_wp2_with fail
      go_loopw [8, 9] (fun q y wr => ∃ (n : Nat) (z : Int) (S out : List ByteArray), y = .int .i64 z ∧ Hid (z = (n : Int) - 1) ∧ n ≤ L.length ∧ Hid (AI L ids S out n) ∧ out.length ≤ L.length - n ∧ St w wr [⟨q, 9, 1, out.length, ss out⟩, (⟨.slice (some ⟨ga, 0, none⟩) L.length L.length, 3, 1, L.length, is (flg L (S))⟩ : Row)] []) (fun _ y _ => ((intOf y) + 1).toNat)
      case atStart => exact ⟨L.length, _, ids, [], rfl, Mx.hid (by go_num), Nat.le_refl _, HIA, by simp, hs0⟩
      case round =>
        clear hs0 hs c0 HIA hlt hi HIN
        obtain ⟨n, z, S, out, rfl, HZ, hn, HAI, hol, hs⟩ := hrel
        obtain ⟨qo, qc, rfl, _⟩ := id hs.sl0
        cases n with
        | zero =>
          obtain rfl : z = -1 := by have := HZ.out; omega
          have HU := Mx.hid (refUnique_any _ out wr hs.sl0 (by omega))
          have hk := hs.bare
          clear hs
          go_wp2_with fail
          refine HU.out.mono ?_
          rintro e w9 ⟨vu, rfl, hu⟩
          go_wp2_with fail
          go_ret2
          exact .inl ⟨vu, uniqL out, rfl, (hk.call hu).sub (by simp) (by simp), HAI.out.done HW.out, uniqL_strict out⟩
        | succ i =>
          obtain rfl : z = (i : Int) := by have := HZ.out; omega
          have hlt : i < L.length := by omega
          by_cases hin : L[i].1 ∈ S
          · have cI := hs.rcell (List.mem_cons_of_mem _ (List.mem_cons_self ..)) (flg_cell (S := S) hlt (z := 1) (by rw [if_pos (memB_iff.2 hin)]))
            have HAI2 := Mx.hid (HAI.out.take HW.out hlt hin)
            obtain ⟨rfl, k0⟩ := HCI.out i hlt
            obtain ⟨rfl, pv, k1, kp⟩ := HCP.out i hlt
            have HPX := Mx.hid (fun p (hp : p ∈ L[i].2.1) => wf_par_ix HW.out hlt hp)
            obtain ⟨vo, vc, vb, vf, rfl, v1, v2, _, hcv⟩ := kp.txt
            have HCV := Mx.hid hcv
            have HK1 := Mx.hid k1
            replace k0 := hs.keep k0
            have d0 := hs.keep HC0.out
            clear hin kp hcv k1
            generalize L[i].1 = nm at *
            generalize L[i].2.1 = ps at *
            go_wp2_with (at_builtin; refine wpl_app rfl _ _ 26 rfl Try.elStr (hs.alloc _) rfl (by exact Sl.one _ _ _) (by intro u hu; simp at hu; subst hu; rfl) (by omega) ?_; intro v3 w3 hs3 _)
            have hs4 := hs3.cast (n' := (out ++ [nm]).length) (xs' := ss (out ++ [nm])) (by simp) (by rw [ss_app]; rfl)
            go_loopw [10] (fun y wr => ∃ k : Nat, y = .int .i64 k ∧ k ≤ ps.length ∧ St w wr [⟨v3, 9, 1, (out ++ [nm]).length, ss (out ++ [nm])⟩, (⟨.slice (some ⟨ga, 0, none⟩) L.length L.length, 3, 1, L.length, is (flg L (S ++ ps.take k))⟩ : Row)] []) (fun y _ => ps.length - (intOf y).toNat)
            case atStart => exact ⟨0, rfl, by omega, by simpa using hs4⟩
            case round =>
              clear hs4 hs3 hs cI k0 d0
              obtain ⟨k, rfl, hk, hs5⟩ := hrel
              have d1 := hs5.keep HC1.out
              have k1 := hs5.keep HK1.out
              by_cases hlt2 : k < ps.length
              · obtain ⟨rfl, q0⟩ := HCV.out k hlt2
                replace q0 := hs5.keep q0
                have HPK := Mx.hid (HPX.out ps[k] (List.getElem_mem hlt2))
                have HTK := Mx.hid (List.take_succ_eq_append_getElem hlt2)
                have HT := Mx.hid (HAT.out ps[k] _ _ _ hs5)
                rcases ixL_cases L ps[k] with ⟨j, hj, e1, e2, e3⟩ | ⟨e1, e2, e3⟩
                · rw [e2] at HT
                  have HP := Mx.hid (flg_put (S := S ++ ps.take k) (wf_nodup HW.out) hj)
                  rw [e1, List.append_assoc S, ← HTK.out] at HP
                  have hjl : j < (is (flg L (S ++ ps.take k))).length := by simp [is, flg_len, hj]
                  have hjj : (j : Int) < (L.length : Int) := by omega
                  have hii : (i : Int) < (L.length : Int) := by omega
                  clear e1 e2 e3
                  generalize ps[k] = p at *
                  go_wp2_with (first | (go_at_call 43; refine HT.out.mono ?_; rintro e w9 ⟨rfl, rfl⟩) | ((with_reducible show wpList _ _ _ _ _ _); refine wpl_store1 rfl 3 _ _ rfl hs5.swap (j) rfl (.int .i64 1) rfl rfl (by kernel_rfl) hjl rfl ?_; intro w6 hs6))
                  exact ⟨⟨k + 1, by go_num, by omega, (hs6.cast rfl HP.out).swap⟩, by simp [intOf]; omega⟩
                · obtain ⟨j, hj, _, hjp⟩ := HPK.out
                  exact absurd (List.mem_map.2 ⟨_, List.getElem_mem hj, hjp⟩) e1
              · rw [List.take_of_length_le (show ps.length ≤ k by omega)] at hs5
                go_wp2_with fail
                exact ⟨⟨i, _, S ++ ps, out ++ [nm], rfl, Mx.hid (by go_num), by omega, HAI2, by simp; omega, hs5⟩, by simp [intOf]⟩
          · have cI := hs.rcell (List.mem_cons_of_mem _ (List.mem_cons_self ..)) (flg_cell (S := S) hlt (z := 0) (by rw [if_neg (fun h => hin (memB_iff.1 h))]))
            have HAI2 := Mx.hid (HAI.out.skip hlt hin)
            clear hin
            go_wp2_with fail
            exact ⟨⟨i, _, S, out, rfl, Mx.hid (by go_num), by omega, HAI2, by omega, hs⟩, by simp [intOf]⟩
end Go.Proofs.Ytojbdlbcaoeffaa
