/- Walks of names.Parents; marref1.Under, Parents, Join. -/
import Derived.Test.YtobpojlophhfaaaDoorNamJ
import Derived.Test.YtobpojlophhfaaaDoorNamR
namespace Go.Mx
open Go Go.RowKit
theorem rp_step {s : List UInt8} {acc : List (List UInt8)} {i : Nat} (h : rp [] s = acc ++ rp (s.take i) (s.drop i)) (hi : i < s.length) :
    rp [] s = (if s[i] = 47 then acc ++ [s.take i] else acc) ++ rp (s.take (i + 1)) (s.drop (i + 1)) := by
  rw [h, List.drop_eq_getElem_cons hi, rp, List.take_succ_eq_append_getElem hi]
  split <;> simp
end Go.Mx
namespace Go.Proofs.YtobpojlophhfaaaDoor
open Go.RowKit Go.Mx

theorem sjoin_tx (v : Value) (L : List (List UInt8)) (w : World) (hv : Sl w 1 v L.length (ss (tx L))) (hl : L.length ≤ 8796093022208) (hj : (joinS 47 L).length ≤ 140737488355328) :
    Calls Tryd.prog 63 #[v, .string ⟨#[47]⟩] w fun e w' => e = .returned (.string (str (joinS 47 L))) ∧ St w w' [] [] := by
  have := sjoin_any v (tx L) w (by rw [tx_len]; exact hv) (by rw [tx_len]; exact hl) (by rw [tx_map]; exact hj)
  rwa [tx_map] at this

set_option maxHeartbeats 1000000 in
theorem parents_n (s : ByteArray) (w : World) (hs : s.size ≤ maxLen) :
    Calls Tryd.prog 28 #[.string s] w fun e w' => ∃ v, e = .returned v ∧ St w w' [⟨v, 9, 1, (parsL (bL s)).length, ss (tx (parsL (bL s)))⟩] [] := by
  have HSP := Mx.hid (fun wx => split_n s wx hs)
  have HB := Mx.hid (names_le8 (bL s))
  have HJL := Mx.hid (names_join_le (bL s))
  have HPL := Mx.hid (pars_len (bL s))
  have HPS := Mx.hid (pars_snoc (bL s))
  generalize namesL (bL s) = L at *
  generalize parsL (bL s) = PL at *
  clear hs
  go_enter Tryd.func28, Tryd.ntmps28
  go_wp2_with fail
  refine (HSP.out _).mono ?_
  rintro e w1 ⟨v, rfl, hk⟩
  obtain ⟨ao, cap, rfl, l1, l2, _⟩ := id hk.sl0
  unfold maxLen at l2
  replace hk := hk.freeze
  simp only [] at hk
  go_wp2_with fail
  go_loopw [4, 5] (fun o y wr => ∃ i : Nat, 1 ≤ i ∧ (i ≤ L.length ∨ i = 1) ∧ y = .int .i64 i ∧ St w wr [⟨o, 9, 1, (PL.take (i - 1)).length, ss (tx (PL.take (i - 1)))⟩] [⟨.slice ao L.length cap, 1, L.length, ss (tx L)⟩]) (fun _ y _ => L.length - (intOf y).toNat)
  case atStart => exact ⟨1, by omega, .inr rfl, rfl, by simpa [tx, ss] using hk.addNil 9 1⟩
  case round =>
    clear hk
    obtain ⟨i, h1, hi, rfl, hs⟩ := hrel
    by_cases hlt : i < L.length
    · have h8 := HB.out
      have hii : (i : Int) < (L.length : Int) := by omega
      have hn : (PL.take (i - 1)).length ≤ 8 := by rw [List.length_take]; omega
      have HJ := Mx.hid (fun v wx (hv : Sl wx 1 v (L.take i).length (ss (tx (L.take i)))) => sjoin_tx v (L.take i) wx hv (by rw [List.length_take]; omega) (by have := HJL.out i; omega))
      have HS := Mx.hid (HPS.out i h1 hlt)
      have hq := hs.q0
      have HC := Mx.hid (fun v (hv : Sl wr 1 v (i - 0) (((ss (tx L)).take (i * 1)).drop (0 * 1))) => (show Sl wr 1 v (L.take i).length (ss (tx (L.take i))) from by
        have := Sl.cutS hv (by rw [tx_len]; omega) (by omega)
        rwa [tx_cut, tx_len] at this))
      generalize L.take i = M at *
      generalize joinS 47 M = J at *
      have HZ := Mx.hid h8
      clear h8
      go_wp2_with (first | ((with_reducible show wpList _ _ _ _ _ _); refine wpl_cut rfl 24 _ _ _ rfl Tryd.elStr (by exact hq) 0 i (.inl ⟨rfl, rfl⟩) (.inr ⟨.i64, rfl⟩) (by omega) (by omega) ?_; intro vc hvc; replace hvc := HC.out _ (hvc _ (by exact hq))) | (go_at_call 63; refine (HJ.out _ _ hvc).mono ?_; rintro e w2 ⟨rfl, hk2⟩; have hs2 := hs.call0 hk2) | (at_builtin; refine wpl_app rfl _ _ 24 rfl Tryd.elStr (hs2.alloc _) rfl (by exact Sl.one _ _ _) (by intro u hu; simp at hu; subst hu; rfl) (by omega) ?_; intro v3 w3 hs3 _))
      go_roundw
      case rel => exact ⟨i + 1, by omega, by omega, by go_num, hs3.cast (by rw [HS.out]; simp) (by rw [HS.out, tx_app, ss_app]; rfl)⟩
      case measure => simp [intOf]; omega
    · have HE := Mx.hid (show PL.take (i - 1) = PL by have := HPL.out; exact List.take_of_length_le (by omega))
      go_wp2_with fail
      go_ret
      exact ⟨_, rfl, (hs.cast (by rw [HE.out]) (by rw [HE.out])).noQ⟩

theorem refUnder_any (d s : ByteArray) (w : World) (hd : d.size ≤ maxLen) (hs : s.size ≤ maxLen) :
    Calls Tryd.prog 26 #[.string d, .string s] w fun e w' => e = .returned (.bool (underB (bL d) (bL s))) ∧ St w w' [] [] := by
  have HPD := Mx.hid (fun wx => refPath_any d wx hd)
  have HPS := Mx.hid (fun wx => refPath_any s wx hs)
  have HU := Mx.hid (under_ref (bL d) (bL s))
  cases h1 : pathB (bL d) with
  | false =>
    rw [h1] at HPD HU
    clear h1
    go_enter Tryd.func26, Tryd.ntmps26
    go_wp2_with (first | ((with_reducible show wpList _ _ _ _ _ _); refine wpl_want rfl ?_) | (go_at_call 41; (with_reducible show Calls _ _ #[Value.string d] _ _); refine (HPD.out _).mono ?_; rintro e w1 ⟨rfl, hk⟩))
    go_ret
    exact ⟨by rw [HU.out]; rfl, hk⟩
  | true =>
    have h200 := path_200 h1
    rw [h1] at HPD HU
    clear h1
    cases h2 : pathB (bL s) with
    | false =>
      rw [h2] at HPS HU
      clear h2
      go_enter Tryd.func26, Tryd.ntmps26
      go_wp2_with (first | ((with_reducible show wpList _ _ _ _ _ _); refine wpl_want rfl ?_) | (go_at_call 41; (with_reducible show Calls _ _ #[Value.string d] _ _); refine (HPD.out _).mono ?_; rintro e w1 ⟨rfl, hk⟩) | (go_at_call 41; (with_reducible show Calls _ _ #[Value.string s] _ _); refine (HPS.out _).mono ?_; rintro e w2 ⟨rfl, hk2⟩))
      go_ret
      exact ⟨by rw [HU.out]; rfl, hk.call0 hk2⟩
    | true =>
      have g200 := path_200 h2
      rw [h2] at HPS HU
      clear h2
      by_cases h3 : d.size + 1 < s.size
      · have q3 : decide ((d.size : Int) + 1 < (s.size : Int)) = true := decide_eq_true (by omega)
        have q3n : decide (d.size + 1 < s.size) = true := decide_eq_true (by omega)
        have HT := Mx.hid (show (((s.extract 0 d.size).toList == d.toList) = decide ((bL s).take (bL d).length = bL d)) from by rw [bare_tx, ext_take]; rfl)
        have HG := Mx.hid (show (bL s)[(bL d).length]? = some s[d.size] from by
          rw [List.getElem?_eq_getElem (show (bL d).length < (bL s).length from by have e1 : (bL d).length = d.size := rfl; have e2 : (bL s).length = s.size := rfl; omega)]
          rfl)
        have HL := Mx.hid (show decide ((bL d).length + 1 < (bL s).length) = true from decide_eq_true h3)
        cases h4 : ((s.extract 0 d.size).toList == d.toList) with
        | false =>
          have HF := Mx.hid (show underB (bL d) (bL s) = false by rw [HU.out, ← HT.out, h4, HL.out]; rfl)
          go_enter Tryd.func26, Tryd.ntmps26
          go_wp2_with (first | ((with_reducible show wpList _ _ _ _ _ _); refine wpl_want rfl ?_) | (go_at_call 41; (with_reducible show Calls _ _ #[Value.string d] _ _); refine (HPD.out _).mono ?_; rintro e w1 ⟨rfl, hk⟩) | (go_at_call 41; (with_reducible show Calls _ _ #[Value.string s] _ _); refine (HPS.out _).mono ?_; rintro e w2 ⟨rfl, hk2⟩))
          go_ret
          exact ⟨by rw [HF.out]; rfl, hk.call0 hk2⟩
        | true =>
          have HF := Mx.hid (show underB (bL d) (bL s) = decide (some s[d.size] = some 47) by rw [HU.out, ← HT.out, h4, HL.out, HG.out]; rfl)
          cases h5 : ((s[d.size].toNat : Int) == 47) with
          | false =>
            have HX := Mx.hid (show decide (some s[d.size] = some 47) = false from by
              rw [beq_eq_false_iff_ne] at h5
              exact decide_eq_false (fun h => h5 (by rw [Option.some.inj h]; rfl)))
            go_enter Tryd.func26, Tryd.ntmps26
            go_wp2_with (first | ((with_reducible show wpList _ _ _ _ _ _); refine wpl_want rfl ?_) | (go_at_call 41; (with_reducible show Calls _ _ #[Value.string d] _ _); refine (HPD.out _).mono ?_; rintro e w1 ⟨rfl, hk⟩) | (go_at_call 41; (with_reducible show Calls _ _ #[Value.string s] _ _); refine (HPS.out _).mono ?_; rintro e w2 ⟨rfl, hk2⟩))
            go_ret
            exact ⟨by rw [HF.out, HX.out]; rfl, hk.call0 hk2⟩
          | true =>
            have HX := Mx.hid (show decide (some s[d.size] = some 47) = true from by
              rw [beq_iff_eq] at h5
              exact decide_eq_true (by rw [show s[d.size] = 47 from UInt8.toNat_inj.1 (Int.ofNat.inj h5)]))
            go_enter Tryd.func26, Tryd.ntmps26
            go_wp2_with (first | ((with_reducible show wpList _ _ _ _ _ _); refine wpl_want rfl ?_) | (go_at_call 41; (with_reducible show Calls _ _ #[Value.string d] _ _); refine (HPD.out _).mono ?_; rintro e w1 ⟨rfl, hk⟩) | (go_at_call 41; (with_reducible show Calls _ _ #[Value.string s] _ _); refine (HPS.out _).mono ?_; rintro e w2 ⟨rfl, hk2⟩))
            go_ret
            exact ⟨by rw [HF.out, HX.out]; rfl, hk.call0 hk2⟩
      · have q3 : decide ((d.size : Int) + 1 < (s.size : Int)) = false := decide_eq_false (by omega)
        have q3n : decide (d.size + 1 < s.size) = false := decide_eq_false (by omega)
        have HL := Mx.hid (show decide ((bL d).length + 1 < (bL s).length) = false from decide_eq_false h3)
        clear h3
        go_enter Tryd.func26, Tryd.ntmps26
        go_wp2_with (first | ((with_reducible show wpList _ _ _ _ _ _); refine wpl_want rfl ?_) | (go_at_call 41; (with_reducible show Calls _ _ #[Value.string d] _ _); refine (HPD.out _).mono ?_; rintro e w1 ⟨rfl, hk⟩) | (go_at_call 41; (with_reducible show Calls _ _ #[Value.string s] _ _); refine (HPS.out _).mono ?_; rintro e w2 ⟨rfl, hk2⟩))
        go_ret
        exact ⟨by rw [HU.out, HL.out]; rfl, hk.call0 hk2⟩

set_option maxRecDepth 100000 in
set_option maxHeartbeats 1000000 in
theorem refParents_any (s : ByteArray) (w : World) (hs : s.size ≤ maxLen) :
    Calls Tryd.prog 29 #[.string s] w fun e w' => ∃ v, e = .returned v ∧ St w w' [⟨v, 9, 1, (parsL (bL s)).length, ss (tx (parsL (bL s)))⟩] [] := by
  have HP := Mx.hid (fun wx => refPath_any s wx hs)
  cases hp : pathB (bL s) with
  | false =>
    have HN := Mx.hid (show parsL (bL s) = [] by unfold parsL; rw [names_not hp]; rfl)
    rw [hp] at HP
    clear hp
    go_enter Tryd.func29, Tryd.ntmps29
    go_wp2_with fail
    refine (HP.out _).mono ?_
    rintro e w1 ⟨rfl, hk⟩
    go_wp2_with fail
    go_ret
    exact ⟨_, rfl, by rw [HN.out]; exact hk.addNil _ _⟩
  | true =>
    have h200 := path_200 hp
    have HR := Mx.hid (pars_ref hp)
    rw [hp] at HP
    clear hp
    obtain ⟨l, hsl⟩ : ∃ l, l = bL s := ⟨_, rfl⟩
    have hZ : s.size = l.length := by rw [hsl]; rfl
    have HG : Hid (∀ i (h : i < l.length) (h' : i < s.size), s[i] = l[i]) := fun i h h' => by
      subst hsl
      exact (Array.getElem_toList (xs := s.data) h).symm
    have HE : Hid (∀ i, s.extract 0 i = str (l.take i)) := fun i => by
      subst hsl
      apply ByteArray.ext
      rw [ByteArray.data_extract]
      apply Array.ext'
      simp [str, bL]
    rw [← hsl] at HR ⊢
    have HZ := Mx.hid hZ
    clear hsl hs
    rw [hZ] at h200
    clear hZ
    go_enter Tryd.func29, Tryd.ntmps29
    go_wp2_with fail
    refine (HP.out _).mono ?_
    rintro e w1 ⟨rfl, hk⟩
    go_wp2_with fail
    go_loopw [3, 4] (fun o y wr => ∃ (i : Nat) (acc : List (List UInt8)), i ≤ l.length ∧ y = .int .i64 i ∧ acc.length ≤ i ∧ Hid (rp [] l = acc ++ rp (l.take i) (l.drop i)) ∧ St w wr [⟨o, 9, 1, acc.length, ss (tx acc)⟩] []) (fun _ y _ => l.length - (intOf y).toNat)
    case atStart => exact ⟨0, [], by omega, rfl, by simp, by simp [Hid], hk.addNil _ _⟩
    case round =>
      clear hk
      obtain ⟨i, acc, hi, rfl, hac, Hl, hs⟩ := hrel
      have hz : s.size = l.length := HZ.out
      by_cases hlt : i < l.length
      · have hii : (i : Int) < (s.size : Int) := by omega
        have hin : i < s.size := by omega
        have hE := HE.out i
        have hget := HG.out i hlt (by omega)
        have HX := Mx.hid (rp_step Hl.out hlt)
        generalize l[i] = x at *
        by_cases hx : x = 47
        · have HX2 := Mx.hid (HX.out.trans (by rw [if_pos hx]))
          have q : ((x.toNat : Int) == 47) = true := by rw [hx]; rfl
          clear hx HX
          go_wp2_with (at_builtin; refine wpl_app rfl _ _ 24 rfl Tryd.elStr (hs.alloc _) rfl (by exact Sl.one _ _ _) (by intro u hu; simp at hu; subst hu; rfl) (by omega) ?_; intro v1 w1 hs1 _)
          go_roundw
          case rel => exact ⟨i + 1, acc ++ [l.take i], by omega, by go_num, by simp; omega, HX2, hs1.cast (by simp) (by rw [tx_app, ss_app]; rfl)⟩
          case measure => simp [intOf]; omega
        · have HX2 := Mx.hid (HX.out.trans (by rw [if_neg hx]))
          have q : ((x.toNat : Int) == 47) = false := by
            rw [beq_eq_false_iff_ne]
            exact fun h => hx (UInt8.toNat_inj.1 (Int.ofNat.inj h))
          clear hx HX
          go_wp2_with fail
          go_roundw
          case rel => exact ⟨i + 1, acc, by omega, by go_num, by omega, HX2, hs⟩
          case measure => simp [intOf]; omega
      · have HE2 := Mx.hid (show acc = parsL l from by
          have := Hl.out
          rw [List.drop_eq_nil_of_le (by omega), rp, List.append_nil] at this
          rw [HR.out, this])
        have hge : (s.size : Int) ≤ (i : Int) := by omega
        clear hz hlt
        go_wp2_with fail
        go_ret
        exact ⟨_, rfl, hs.cast (by rw [HE2.out]) (by rw [HE2.out])⟩
end Go.Proofs.YtobpojlophhfaaaDoor
