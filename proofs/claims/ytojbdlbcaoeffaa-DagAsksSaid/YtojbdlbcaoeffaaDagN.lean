/- Walk of dag's nearest. -/
import Derived.Test.YtojbdlbcaoeffaaDagD
namespace Go.Proofs.Ytojbdlbcaoeffaa
open Go.RowKit Go.Mx
/-- What nearest hands back: those of a set that are no other one's parents. -/
def NearPost (L : List Nd) (M : List ByteArray) (w : World) (e : Ending) (w' : World) : Prop :=
  ∃ v N, e = .returned v ∧ St w w' [⟨v, 9, 1, N.length, ss N⟩] [] ∧ Strict N ∧ N.length ≤ 2000 ∧ ∀ x, x ∈ N ↔ x ∈ M ∧ ∀ m ∈ M, ∀ n, fnd L m = some n → x ∉ n.1
def addAll (K ps : List ByteArray) : List ByteArray := ps.foldl (fun K p => if memB K p = true then K else K ++ [p]) K
theorem mset_any (K : List ByteArray) (p : ByteArray) : mset (met K) p (.int .i64 1) = met (if memB K p = true then K else K ++ [p]) := by
  by_cases h : memB K p = true
  · rw [if_pos h]
    have h2 := memB_iff.1 h
    clear h
    induction K with
    | nil => cases h2
    | cons x K ih =>
      show mset ((x, Value.int .i64 1) :: met K) p _ = _
      rw [mset]
      by_cases hx : x = p
      · rw [if_pos hx, ← hx]; rfl
      · rw [if_neg hx]
        rcases List.mem_cons.1 h2 with h3 | h3
        · exact absurd h3.symm hx
        · rw [ih h3]; rfl
  · rw [if_neg h]
    exact mset_met (by rwa [memB_iff] at h)
theorem mem_add1 {K : List ByteArray} {p x : ByteArray} : x ∈ (if memB K p = true then K else K ++ [p]) ↔ x ∈ K ∨ x = p := by
  by_cases h : memB K p = true
  · rw [if_pos h]
    exact ⟨.inl, fun h1 => by rcases h1 with h1 | rfl; exact h1; exact memB_iff.1 h⟩
  · rw [if_neg h]
    simp

set_option maxRecDepth 100000 in
set_option maxHeartbeats 2000000 in
theorem nearest_g (g B : Nat) (G : List Gd) (b : Nat) (M : List ByteArray) (w : World) (h : GR w g B G) (hm : Mp w b (met M)) (hnd : M.Nodup) (hl : M.length ≤ 2000) (hin : ∀ m ∈ M, ∃ n, fnd (G.map (·.2)) m = some n) :
    Calls Try.prog 37 #[.pointer (some ⟨g, 0, none⟩), .map (some b)] w (NearPost (G.map (·.2)) M w) := by
  have hmk := @run_makeMap Try.prog
  have HMP0 := Mx.hid ((Mp.made w).grow ((Below.refl (w.alloc (.map #[] 0)).heap.size (w.alloc (.map #[] 0))).alloc (Nat.le_refl _) (.cells #[.map (some w.heap.size)] 54)))
  have HS0 := Mx.hid (((St.refl w).alloc (.map #[] 0)).madeAt #[.map (some w.heap.size)] 54 1 1 (w.heap.size + 1) (by rfl) (by simp [maxLen]) (heap_size_alloc _ _).symm)
  have HSZ := Mx.hid (show ((w.alloc (.map #[] 0)).alloc (.cells #[.map (some w.heap.size)] 54)).heap.size = w.heap.size + 2 by rw [heap_size_alloc, heap_size_alloc])
  have HM0 := Mx.hid (hm.grow HS0.out.below)
  have HBL := Mx.hid hm.lt
  have HR := Mx.hid (fun w' (hs : St w w' [] []) => h.st hs)
  have HGET := Mx.hid (fun x n (hn : fnd (G.map (·.2)) x = some n) => h.get hn)
  have HIN := Mx.hid hin
  have HND := Mx.hid hnd
  have HL := Mx.hid hl
  clear h hm hnd hl hin
  go_enter Try.func37, Try.ntmps37
  go_wp2_with ((with_reducible show wpList _ _ _ _ _ _); refine wpl_mrange rfl 54 _ rfl Try.underlying54 HM0.out rfl ?_; intro w1 hrg hbl hsz)
  rw [HSZ.out] at hrg hbl hsz
  try rw [HSZ.out]
  have hs1 : St w w1 [] [] := HS0.out.bare.grow (by rw [HSZ.out]; exact hbl)
  have hc1 : w1.cell? ⟨w.heap.size + 1, 0, none⟩ = some (.map (some w.heap.size)) := (hbl.cell (p := ⟨w.heap.size + 1, 0, none⟩) (by show w.heap.size + 1 < _; omega)).trans (HS0.out.cell rfl)
  have hm1 : Mp w1 w.heap.size (met []) := HMP0.out.grow (by rw [HSZ.out]; exact hbl)
  clear hsz hbl
  obtain ⟨C, hC⟩ : ∃ C, C = w.heap.size := ⟨_, rfl⟩
  have HC := Mx.hid hC
  rw [← hC] at hrg hc1 hm1 ⊢
  clear hC
  clear HMP0 HM0 HS0 HSZ
  go_loopg [6] M.length (fun kk y wr => ∃ (left : List Ent) (done K : List ByteArray), Hid (left.length ≤ kk) ∧ Hid (M.Perm (done ++ left.map Prod.fst)) ∧ Hid (∀ x, x ∈ K ↔ ∃ m ∈ done, ∃ n, fnd (G.map (·.2)) m = some n ∧ x ∈ n.1) ∧ Rg wr (C + 2) b (met M) left ∧ Mp wr C (met K) ∧ wr.cell? ⟨C + 1, 0, none⟩ = some (.map (some C)) ∧ St w wr [] [])
  case atStart => exact ⟨met M, [], [], Mx.hid (by simp [met]), Mx.hid (by rw [met_fst]; exact List.Perm.refl _), Mx.hid (by simp), hrg, hm1, hc1, hs1⟩
  case round =>
    clear hrg hm1 hc1 hs1
    obtain ⟨left, done, K, HK, HP, HX, hrg, hmk2, hc, hs⟩ := hrel
    have hCb : C ≠ b := by have := HBL.out; have := HC.out; omega
    rcases run_mnext' (P := Try.prog) hrg with ⟨rfl, hn⟩ | ⟨p, left', w2, hperm, hn, hrg2, hgr, hsz, hen⟩
    · have HP2 := Mx.hid (show M.Perm done by simpa using HP.out)
      have HKE := Mx.hid (keys_g b M wr hrg.mp (by have := HL.out; omega))
      have HDF := Mx.hid (fun v w' (hs : St wr w' [⟨v, 9, 1, (sortL M).length, ss (sortL M)⟩] []) => deleteF_any (C + 1) C K v (sortL M) hs hc hmk2 (by rw [sortL_len]; have := HL.out; omega))
      clear hrg hmk2 hCb HP hc
      go_wp2_with fail
      refine HKE.out.mono ?_
      rintro e w3 ⟨v3, rfl, h3⟩
      go_wp2_with fail
      refine (HDF.out _ _ h3).mono ?_
      rintro e w4 ⟨v4, rfl, h4⟩
      have h5 := hs.call h4
      clear h3 h4
      go_wp2_with fail
      go_ret
      refine ⟨_, outL K (sortL M), rfl, h5, (sortL_strict HND.out).filter _, Nat.le_trans (outL_len _ _) (by rw [sortL_len]; exact HL.out), fun x => ?_⟩
      rw [mem_outL, (sortL_perm M).mem_iff]
      refine and_congr_right fun _ => ?_
      constructor
      · intro hk m hm n hn hx
        exact hk ((HX.out x).2 ⟨m, HP2.out.mem_iff.1 hm, n, hn, hx⟩)
      · intro hk hx
        obtain ⟨m, hm, n, hn, hxn⟩ := (HX.out x).1 hx
        exact hk m (HP2.out.mem_iff.2 hm) n hn hxn
    · have hs2 := hs.other hrg.noRow (by have := HC.out; omega) hgr
      have hmk3 := hmk2.kept hgr (by intro e; have := Option.some.inj e; omega)
      have hc3 := cell_grown hc hgr (by omega)
      obtain ⟨p1, p2⟩ := p
      simp only [] at hn hen
      have hpM : p1 ∈ M := by
        rw [HP.out.mem_iff, List.mem_append]
        right
        rw [(hperm.map Prod.fst).mem_iff]
        simp
      obtain ⟨n, hfn⟩ := HIN.out p1 hpM
      obtain ⟨pv, hpg, hps, hpl⟩ := HGET.out p1 n hfn
      have HFN := Mx.hid hfn
      have HP2 := Mx.hid (perm_step HP.out hperm)
      have HK2 := Mx.hid (show left'.length < gk by have h1 := HK.out; have h2 := hperm.length_eq; simp at h2; omega)
      have HPG := Mx.hid hpg
      have HPS := Mx.hid hps
      obtain ⟨pa, pc, pb, po, rfl, _, _, _, hpc⟩ := hps.txt
      have HPC := Mx.hid hpc
      have hr4 := HR.out _ hs2.bare
      have c4 := hr4.cell
      have HM4 := Mx.hid hr4.mp
      have kf := Try.fldP
      clear hrg hgr hsz hperm HK HP hfn hpg hps hpc hr4 hpM hmk2 hc hs
      go_wp2_with ((with_reducible show wpList _ _ _ _ _ _); refine wpl_look rfl 62 _ _ false rfl Try.underlying62 Try.underlying9 Try.zeroNd (by exact HM4.out) rfl p1 rfl ?_; rw [HPG.out])
      clear hn hen c4
      go_loopw [24] (fun y wr => ∃ (i : Nat) (K2 : List ByteArray), i ≤ n.1.length ∧ y = .int .i64 i ∧ Hid (∀ x, x ∈ K2 ↔ x ∈ K ∨ x ∈ n.1.take i) ∧ Rg wr (C + 2) b (met M) left' ∧ Mp wr C (met K2) ∧ wr.cell? ⟨C + 1, 0, none⟩ = some (.map (some C)) ∧ St w wr [] []) (fun y _ => n.1.length - (intOf y).toNat)
      case atStart => exact ⟨0, K, by omega, rfl, Mx.hid (by simp), hrg2, hmk3, hc3, hs2⟩
      case round =>
        clear hrg2 hmk3 hc3 hs2
        obtain ⟨i, K2, hi, rfl, HX2, hrg, hmk2, hc, hs⟩ := hrel
        by_cases hlt : i < n.1.length
        · obtain ⟨rfl, c1⟩ := HPC.out i hlt
          replace c1 := hs.keep c1
          have HT := Mx.hid (List.take_succ_eq_append_getElem hlt)
          generalize n.1[i] = x at *
          have HRG := Mx.hid hrg
          have HHC := Mx.hid hc
          go_wp2_with ((with_reducible show wpList _ _ _ _ _ _); refine wpl_mset rfl 54 _ _ _ rfl Try.underlying54 Try.underlying9 hmk2 hs (Nat.le_of_eq HC.out.symm) rfl x rfl ?_; intro w5 hm5 hs5 hg5 hz5)
          go_roundw
          case rel =>
            have hm6 : Mp w5 C (mset (met K2) x (.int .i64 1)) := hm5
            rw [mset_any] at hm6
            refine ⟨i + 1, _, by omega, by go_num, Mx.hid (fun z => ?_), HRG.out.kept hg5 (by intro e; have := Option.some.inj e; omega) (by intro e; exact hCb (Option.some.inj e)), hm6, cell_grown HHC.out hg5 (by omega), hs5⟩
            rw [mem_add1, HX2.out z, HT.out, List.mem_append, List.mem_singleton, or_assoc]
          case measure => simp [intOf]; omega
        · have HX3 := Mx.hid (show ∀ x, x ∈ K2 ↔ ∃ m ∈ done ++ [p1], ∃ n, fnd (G.map (·.2)) m = some n ∧ x ∈ n.1 from fun x => by
            rw [HX2.out x, List.take_of_length_le (by omega), HX.out x]
            constructor
            · rintro (⟨m, hm, q, hq, hx⟩ | hx)
              · exact ⟨m, List.mem_append_left _ hm, q, hq, hx⟩
              · exact ⟨p1, by simp, n, HFN.out, hx⟩
            · rintro ⟨m, hm, q, hq, hx⟩
              rcases List.mem_append.1 hm with hm | hm
              · exact .inl ⟨m, hm, q, hq, hx⟩
              · rw [List.mem_singleton.1 hm, HFN.out] at hq
                cases hq
                exact .inr hx)
          have hge : (n.1.length : Int) ≤ (i : Int) := by omega
          clear hlt hi
          go_wp2_with fail
          go_roundg left'.length
          case measure => exact HK2.out
          case rel => exact ⟨left', done ++ [p1], K2, Mx.hid (Nat.le_refl _), HP2, HX3, hrg, hmk2, hc, hs⟩
end Go.Proofs.Ytojbdlbcaoeffaa
