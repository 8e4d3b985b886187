/- Walks of dag's keys, Ancestors, Is. -/
import Derived.Test.YtojbdlbcaoeffaaDagW
namespace Go.Mx
open Go Go.RowKit
theorem sortL_congr {l m : List ByteArray} (h : l.Perm m) : sortL l = sortL m := eq_sortL (sortL_sorted l) ((sortL_perm l).trans h)
theorem met_fst (M : List ByteArray) : (met M).map Prod.fst = M := by
  unfold met
  rw [List.map_map]
  exact List.map_id' M
theorem run_mnext' {P : Program} {w : World} {r b : Nat} {l left : List Ent} (h : Rg w r b l left) :
    (left = [] ∧ ∀ ty, (Instr.next (.pointer (some ⟨r, 0, none⟩)) false ty).run P w = .ok (.tuple #[.bool false]) w) ∨
    ∃ (p : Ent) (left' : List Ent) (w' : World), left.Perm (p :: left') ∧ (∀ ty, (Instr.next (.pointer (some ⟨r, 0, none⟩)) false ty).run P w = .ok (.tuple #[.bool true, .string p.1, p.2]) w') ∧ Rg w' r b l left' ∧ w.grownBy w' (some r) ∧ w'.heap.size = w.heap.size ∧
      (Instr.entry (.pointer (some ⟨r, 0, none⟩))).run P w' = .ok (.tuple #[.string p.1, p.2]) w' := by
  rcases run_mnext (P := P) h 0 with ⟨h1, h2⟩ | ⟨p, left', w', h1, h2, h3⟩
  · exact .inl ⟨h1, fun _ => h2⟩
  · exact .inr ⟨p, left', w', h1, fun _ => h2, h3⟩
theorem perm_step {M acc : List ByteArray} {left left' : List Ent} {p : Ent} (h : M.Perm (acc ++ left.map Prod.fst)) (hp : left.Perm (p :: left')) : M.Perm ((acc ++ [p.1]) ++ left'.map Prod.fst) := by
  have h2 := hp.map Prod.fst
  rw [List.map_cons] at h2
  refine h.trans ((List.Perm.append_left acc h2).trans ?_)
  rw [List.append_assoc]
  exact List.Perm.refl _
end Go.Mx
namespace Go.Proofs.Ytojbdlbcaoeffaa
open Go.RowKit Go.Mx

set_option maxRecDepth 100000 in
set_option maxHeartbeats 1000000 in
theorem keys_g (b : Nat) (M : List ByteArray) (w : World) (hm : Mp w b (met M)) (hl : M.length ≤ 8000000000) :
    Calls Try.prog 38 #[.map (some b)] w fun e w' => ∃ v, e = .returned v ∧ St w w' [⟨v, 9, 1, (sortL M).length, ss (sortL M)⟩] [] := by
  obtain ⟨w1, hrun, hrg, hbl, hsz⟩ := run_mrange (P := Try.prog) Try.underlying54 hm
  have hs1 : St w w1 [] [] := (St.refl w).grow hbl
  obtain ⟨r, hr⟩ : ∃ r, r = w.heap.size := ⟨_, rfl⟩
  have HR := Mx.hid hr
  rw [← hr] at hrun hrg
  clear hr hsz hbl hm
  have HL := Mx.hid hl
  clear hl
  have HSO := Mx.hid (fun (acc : List ByteArray) v w' (h : acc.length ≤ 8000000000) (hv : Sl w' 1 v acc.length (ss acc)) => sort_any acc.length v acc w' (Nat.le_refl _) hv (by omega))
  go_enter Try.func38, Try.ntmps38
  go_wp2_with fail
  go_loopg [3] M.length (fun kk x wr => ∃ (left : List Ent) (acc : List ByteArray), Hid (left.length ≤ kk) ∧ Hid (M.Perm (acc ++ left.map Prod.fst)) ∧ Rg wr r b (met M) left ∧ St w wr [⟨x, 9, 1, acc.length, ss acc⟩] [])
  case atStart => exact ⟨met M, [], Mx.hid (by simp [met]), Mx.hid (by rw [met_fst]; exact List.Perm.refl _), hrg, hs1.addNil _ _⟩
  case round =>
    clear hrun hrg hs1
    obtain ⟨left, acc, HK, HP, hrg, hs⟩ := hrel
    rcases run_mnext' (P := Try.prog) hrg with ⟨rfl, hn⟩ | ⟨p, left', w2, hperm, hn, hrg2, hgr, hsz, hen⟩
    · have HP2 := Mx.hid (show M.Perm acc by simpa using HP.out)
      have hal : acc.length ≤ 8000000000 := by rw [← HP2.out.length_eq]; exact HL.out
      have HS2 := Mx.hid (HSO.out acc _ _ hal hs.sl0)
      have HE := Mx.hid (sortL_congr HP2.out)
      clear HSO HP hal
      go_wp2_with fail
      refine HS2.out.mono ?_
      rintro e w3 ⟨v3, rfl, h3⟩
      go_wp2_with fail
      go_ret
      exact ⟨_, rfl, by rw [HE.out, sortL_len]; exact hs.bare.call h3⟩
    · have hs2 := hs.other hrg.noRow (Nat.le_of_eq HR.out.symm) hgr
      have HPE := Mx.hid hperm
      have HP2 := Mx.hid (perm_step HP.out hperm)
      have HK2 := Mx.hid (show left'.length < gk by have h1 := HK.out; have h2 := hperm.length_eq; simp at h2; omega)
      have hal : acc.length ≤ 8000000000 := by have h1 := HP2.out.length_eq; have h2 := HL.out; simp at h1; omega
      have HRG := Mx.hid hrg2
      clear hs hrg hrg2 hgr hsz hperm HK HP
      obtain ⟨p1, p2⟩ := p
      simp only [] at hn hen HPE HP2
      go_wp2_with (at_builtin; refine wpl_appG rfl _ _ 26 rfl Try.elStr (hs2.alloc _) rfl (by exact Sl.one _ _ _) (by intro u hu; simp at hu; subst hu; rfl) (by omega) ?_; intro v4 w4 hs4 hg4)
      go_roundg left'.length
      case measure => exact HK2.out
      case rel =>
        have hr5 := HRG.out.grow ((Below.refl _ _).alloc (Nat.le_refl _) (.cells #[.string p1] 9))
        have how := (hs2.alloc (.cells #[.string p1] 9)).own _ (List.mem_cons_self ..)
        exact ⟨left', acc ++ [p1], Mx.hid (Nat.le_refl _), HP2, hr5.kept hg4 (hr5.noRow.apart how) (hr5.mp.apart how), hs4.cast (by simp) (by rw [ss_app]; rfl)⟩

theorem keys_nil (w : World) :
    Calls Try.prog 38 #[.map none] w fun e w' => ∃ v, e = .returned v ∧ St w w' [⟨v, 9, 1, 0, []⟩] [] := by
  have hrun := run_range_nilMap (P := Try.prog) w _ _ _ Try.underlying54
  have hn := fun ty => run_next_nilMap (P := Try.prog) w ty 0 0 #[]
  have HS2 := Mx.hid (fun w' => sort_any 0 (.slice none 0 0) [] w' (Nat.le_refl _) (Sl.nil _ _) (by simp))
  have hs := (St.refl w).alloc (.mapIter none 0 #[] 0)
  go_enter Try.func38, Try.ntmps38
  go_wp2_with fail
  go_loop [3] (fun x => x = .slice none 0 0) (fun _ => 0)
  case atStart => rfl
  case round =>
    obtain rfl := hrel
    go_wp2_with fail
    refine (HS2.out _).mono ?_
    rintro e w3 ⟨v3, rfl, h3⟩
    have h4 : St w w3 [⟨v3, 9, 1, 0, []⟩] [] := (hs.call h3).cast rfl (show ss (sortL []) = [] by rw [show sortL [] = [] from sortL_small (by simp)]; rfl)
    clear h3
    go_wp2_with fail
    go_ret
    exact ⟨_, rfl, h4⟩

def AncPost (L : List Nd) (ids : List ByteArray) (w : World) (e : Ending) (w' : World) : Prop :=
  (∃ v M, e = .returned (.tuple #[v, .int .i64 0]) ∧ St w w' [⟨v, 9, 1, M.length, ss M⟩] [] ∧ Clo L ids M ∧ Strict M ∧ M.length ≤ 2000) ∨
  (∃ v, e = .returned (.tuple #[v, .int .i64 7]) ∧ St w w' [⟨v, 9, 1, 0, []⟩] [] ∧ ∃ i ∈ ids, fnd L i = none)
theorem sortL_strict {M : List ByteArray} (h : M.Nodup) : Strict (sortL M) := by
  have h1 := sortL_sorted M
  have h2 : (sortL M).Nodup := (sortL_perm M).nodup_iff.2 h
  unfold Sorted at h1
  unfold Strict
  refine List.Pairwise.imp₂ (R := fun a b => lt b a = false) (S := fun a b => a ≠ b) ?_ h1 h2
  intro a b h1 h2
  cases h : lt a b with
  | true => rfl
  | false => exact absurd (lt_total h h1) h2
theorem clo_sort {L : List Nd} {ids M : List ByteArray} (h : Clo L ids M) : Clo L ids (sortL M) := ⟨h.1, fun x => ((sortL_perm M).mem_iff).trans (h.2 x)⟩

theorem ancestors_g (g B : Nat) (G : List Gd) (v : Value) (ids : List ByteArray) (w : World) (h : GR w g B G) (hw : WF (G.map (·.2))) (hv : Sl w 1 v ids.length (ss ids)) (hl : ids.length ≤ 1000000) :
    Calls Try.prog 14 #[.pointer (some ⟨g, 0, none⟩), v] w (AncPost (G.map (·.2)) ids w) := by
  have HR := Mx.hid (reach_g g B G v ids w h hw hv hl)
  obtain ⟨ao, cap, rfl, _⟩ := hv.form
  clear h hw hv hl
  go_enter Try.func14, Try.ntmps14
  go_wp2_with fail
  refine HR.out.mono ?_
  rintro e w1 (⟨B2, M, rfl, hm, hb, hc, hnd, hl, hs⟩ | ⟨rfl, hx, hs⟩)
  · have HK := Mx.hid (keys_g B2 M w1 hm (by omega))
    have HC := Mx.hid (And.intro hc hnd)
    clear hc hnd hm
    go_wp2_with fail
    refine HK.out.mono ?_
    rintro e w2 ⟨v2, rfl, h2⟩
    go_wp2_with fail
    go_ret2
    exact .inl ⟨v2, sortL M, rfl, hs.call h2, clo_sort HC.out.1, sortL_strict HC.out.2, by rw [sortL_len]; exact hl⟩
  · have HX := Mx.hid hx
    clear hx
    go_wp2_with fail
    refine (keys_nil _).mono ?_
    rintro e w2 ⟨v2, rfl, h2⟩
    go_wp2_with fail
    go_ret2
    exact .inr ⟨v2, rfl, hs.call h2, HX.out⟩

def IsPost (L : List Nd) (a b : ByteArray) (w : World) (e : Ending) (w' : World) : Prop :=
  ∃ r : Bool, e = .returned (.bool r) ∧ (r = true ↔ Anc L a b ∧ ∃ n, fnd L b = some n) ∧ St w w' [] []
theorem is_g (g B : Nat) (G : List Gd) (a b : ByteArray) (w : World) (h : GR w g B G) (hw : WF (G.map (·.2))) :
    Calls Try.prog 13 #[.pointer (some ⟨g, 0, none⟩), .string a, .string b] w (IsPost (G.map (·.2)) a b w) := by
  have hs0 := (St.refl w).made #[.string b] 9 1 1 (by rfl) (by simp [maxLen])
  have HR := Mx.hid (reach_g g B G _ [b] _ (h.st hs0) hw hs0.sl0 (by simp))
  have HS0 := Mx.hid hs0.bare
  clear h hw hs0
  go_enter Try.func13, Try.ntmps13
  go_wp2_with fail
  refine HR.out.mono ?_
  rintro e w1 (⟨B2, M, rfl, hm, hb, hc, hnd, hl, hs⟩ | ⟨rfl, hx, hs⟩)
  · have HC := Mx.hid hc
    have hs2 := fun o => (HS0.out.call0 hs).alloc o
    clear hc hnd
    cases hx : memB M a with
    | true =>
      have HG := Mx.hid (show mget (met M) a = some (.int .i64 1) by rw [mget_met, if_pos hx])
      have HX := Mx.hid hx
      clear hx
      go_wp2_with (first | ((with_reducible show wpList _ _ _ _ _ _); refine wpl_want rfl ?_) | ((with_reducible show wpList _ _ _ _ _ _); refine wpl_look rfl 54 _ _ true rfl Try.underlying54 Try.underlying9 Try.zeroInt (by exact hm) rfl a rfl ?_; rw [HG.out]))
      go_ret
      refine ⟨true, rfl, ⟨fun _ => ?_, fun _ => rfl⟩, HS0.out.call0 hs⟩
      obtain ⟨i, hi, ha⟩ := (HC.out.2 a).1 (memB_iff.1 HX.out)
      rw [List.mem_singleton.1 hi] at ha
      exact ⟨ha, HC.out.1 b (by simp)⟩
    | false =>
      have HG := Mx.hid (show mget (met M) a = none by rw [mget_met, if_neg (by simp [hx])])
      have HX := Mx.hid hx
      clear hx
      go_wp2_with (first | ((with_reducible show wpList _ _ _ _ _ _); refine wpl_want rfl ?_) | ((with_reducible show wpList _ _ _ _ _ _); refine wpl_look rfl 54 _ _ true rfl Try.underlying54 Try.underlying9 Try.zeroInt (by exact hm) rfl a rfl ?_; rw [HG.out]))
      go_ret
      refine ⟨false, rfl, ⟨fun h => (by cases h), fun h => ?_⟩, HS0.out.call0 hs⟩
      have := memB_iff.2 ((HC.out.2 a).2 ⟨b, by simp, h.1⟩)
      rw [HX.out] at this
      exact this
  · have HX := Mx.hid hx
    have hln := fun w => run_look_nil (P := Try.prog) (w := w) Try.underlying54 Try.underlying9 Try.zeroInt a true
    clear hx
    go_wp2_with (first | ((with_reducible show wpList _ _ _ _ _ _); refine wpl_want rfl ?_))
    go_ret
    refine ⟨false, rfl, ⟨fun h => (by cases h), fun h => ?_⟩, HS0.out.call0 hs⟩
    obtain ⟨i, hi, hn⟩ := HX.out
    rw [List.mem_singleton.1 hi] at hn
    obtain ⟨n, hn2⟩ := h.2
    rw [hn] at hn2
    cases hn2
end Go.Proofs.Ytojbdlbcaoeffaa
