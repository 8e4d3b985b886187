/- reach's Graph. -/
import Derived.Test.YtloogjdafhjheaaGreatRgC
import Derived.Test.YtloogjdafhjheaaGreatJ20RgQ
import Derived.Test.YtloogjdafhjheaaGreatJ17Sta
namespace Go.Mx
open Go Go.RowKit
/-- A met commit's entry. -/
theorem mget_dn {f : ByteArray → Option (List UInt8)} {D : List Dn} {x : ByteArray} (h : x ∈ D.map (·.1)) : ∃ d ∈ D, d.1 = x ∧ mget (D.map (enC f)) x = some (OV d.2.1 d.2.2.1 d.2.2.2 ((cmt f x).getD noOb)) := by
  cases hm : mget (D.map (enC f)) x with
  | none =>
    rw [mget_none] at hm
    exact absurd (by simpa [enC, List.map_map, Function.comp_def] using h) hm
  | some v =>
    obtain ⟨d, hd, he⟩ := List.mem_map.1 (mget_some hm)
    unfold enC at he
    injection he with h2 h3
    subst h2
    exact ⟨d, hd, rfl, by rw [← h3]⟩
open Classical in
/-- The stamps that the map tells. -/
noncomputable def stE (f : ByteArray → Option (List UInt8)) (M : List ByteArray) (k : ByteArray) : Int := if k ∈ M then stp f k else 0
theorem stp_get {f : ByteArray → Option (List UInt8)} {x : ByteArray} : ((cmt f x).getD noOb).stamp = stp f x := by
  unfold stp
  cases cmt f x with
  | none => rfl
  | some o => rfl
theorem nbP_get {f : ByteArray → Option (List UInt8)} {x : ByteArray} : ((cmt f x).getD noOb).parents = nbP f x := by
  unfold nbP
  cases cmt f x with
  | none => rfl
  | some o => rfl
theorem stm_dn (f : ByteArray → Option (List UInt8)) (D : List Dn) : Stm (D.map (enC f)) (stE f (D.map (·.1))) := by
  intro k
  by_cases h : k ∈ D.map (·.1)
  · obtain ⟨d, _, _, hd⟩ := mget_dn (f := f) h
    rw [hd, stE, if_pos h, ← stp_get]
    exact ⟨_, _, _, _, _, _, _, rfl⟩
  · rw [mget_en_no h, stE, if_neg h]
    exact ⟨_, _, _, _, _, _, _, rfl⟩
theorem stE_b {f : ByteArray → Option (List UInt8)} (hf : SrcOK f) (M : List ByteArray) (k : ByteArray) : 0 ≤ stE f M k ∧ stE f M k ≤ 9223372036854775807 := by
  unfold stE
  split
  · exact hf.st k
  · omega
theorem gv_get {l : List ByteArray} {i : Nat} (h : i < l.length) : gv l i = l[i] := by
  unfold gv
  rw [List.getD_eq_getElem?_getD, List.getElem?_eq_getElem h]
  rfl
theorem rise_le {f : ByteArray → Option (List UInt8)} {M l : List ByteArray} {F : ByteArray → Int} (h : Rise F l 0 l.length) (hF : ∀ x, F x = stE f M x - 9223372036854775807) (hM : ∀ x ∈ l, x ∈ M) : ∀ (a b : Nat) (ha : a < l.length) (hb : b < l.length), a ≤ b → stp f l[a] ≤ stp f l[b] := by
  intro a b ha hb hab
  by_cases he : a = b
  · subst he; exact Int.le_refl _
  · have h1 := h a b (Nat.zero_le _) (by omega) hb
    rw [gv_get ha, gv_get hb, hF, hF, stE, stE, if_pos (hM _ (List.getElem_mem ha)), if_pos (hM _ (List.getElem_mem hb))] at h1
    omega
theorem stampL_nd {f : ByteArray → Option (List UInt8)} (hf : SrcOK f) (L : List ByteArray) (k : ByteArray) : -1 ≤ stampL (L.map (ndOf f)) k ∧ stampL (L.map (ndOf f)) k ≤ 9223372036854775807 := by
  unfold stampL
  by_cases h : k ∈ L
  · rw [fnd_nd h]
    have := hf.st k
    simp only []
    omega
  · rw [fnd_nd_no h]
    simp only []
    omega
/-- What Graph leaves. -/
def GrfPost (f : ByteArray → Option (List UInt8)) (ids : List ByteArray) (most : Nat) (w : World) (e : Ending) (w' : World) : Prop :=
  (∃ (g B : Nat) (G : List Gd) (L : List ByteArray), e = .returned (.tuple #[.pointer (some ⟨g, 0, none⟩), .int .i64 0]) ∧ St w w' [] [] ∧ GR w' g B G ∧ G.map (·.2) = L.map (ndOf f) ∧ GoodM f ids most L ∧ Ups f L) ∨
  (∃ er : Int, er ≠ 0 ∧ e = .returned (.tuple #[.pointer none, .int .i64 er]) ∧ St w w' [] [] ∧ ¬ HasG f ids most)
end Go.Mx
namespace Go.Proofs.YtloogjdafhjheaaGreat
open Go.RowKit Go.Mx

theorem rginsSort_nil (w : World) (c : Value) :
    Calls Tryz.prog 68 #[.slice none 0 0, .int .i64 0, .int .i64 0, c] w fun e w' => e = .returned (.tuple #[]) ∧ w = w' := by
  go_enter Tryz.func68, Tryz.ntmps68
  go_wp2_with fail
  go_loopw [8] (fun x wr => x = .int .i64 1 ∧ w = wr) (fun _ _ => 0)
  case atStart => exact ⟨by go_num, rfl⟩
  case round =>
    obtain ⟨rfl, rfl⟩ := hrel
    go_wp2_with fail
    go_end0
    exact ⟨rfl, rfl⟩
theorem rgstable_nil (w : World) (c : Value) :
    Calls Tryz.prog 48 #[.slice none 0 0, .int .i64 0, c] w fun e w' => e = .returned (.tuple #[]) ∧ w = w' := by
  go_enter Tryz.func48, Tryz.ntmps48
  go_wp2_with fail
  go_loopw [7, 8] (fun x y wr => x = .int .i64 0 ∧ y = .int .i64 20 ∧ w = wr) (fun _ _ _ => 0)
  case atStart => exact ⟨rfl, rfl, rfl⟩
  case round =>
    obtain ⟨rfl, rfl, rfl⟩ := hrel
    go_wp2_with fail
    refine (rginsSort_nil _ _).mono ?_
    rintro e w2 ⟨rfl, rfl⟩
    go_wp2_with fail
    go_loopw [6, 7, 8, 9] (fun s _ _ _ wr => s = .int .i64 20 ∧ w = wr) (fun _ _ _ _ _ => 0)
    case atStart => exact ⟨rfl, rfl⟩
    case round =>
      obtain ⟨rfl, rfl⟩ := hrel
      go_wp2_with fail
      go_end0
      exact ⟨rfl, rfl⟩
theorem rgsortStable_nil (w : World) (c : Value) :
    Calls Tryz.prog 26 #[.slice none 0 0, c] w fun e w' => e = .returned (.tuple #[]) ∧ w = w' := by
  go_enter Tryz.func26, Tryz.ntmps26
  go_wp2_with fail
  refine (rgstable_nil _ _).mono ?_
  rintro e w2 ⟨rfl, rfl⟩
  go_wp2_with fail
  go_end0
  exact ⟨rfl, rfl⟩
theorem cmp_okr (gp B : Nat) (E : List Ent) (F : ByteArray → Int) (w0 : World) (h : Mp w0 B E) (hE : Stm E F) (c : w0.cell? ⟨gp, 0, none⟩ = some (.map (some B))) (hb : ∀ k, 0 ≤ F k ∧ F k ≤ 9223372036854775807) : CmpOK w0 gp (fun x => F x - 9223372036854775807) := by
  refine ⟨fun x => ?_, fun a b wx R Q hs => (cmp_r gp B E F a b wx (h.grow hs.below) hE (hs.keep c) hb).mono fun e w' ⟨he, hk⟩ => ⟨?_, hk⟩⟩
  · have := hb x
    show -9223372036854775807 ≤ F x - 9223372036854775807 ∧ F x - 9223372036854775807 ≤ 0
    omega
  · rw [he]
    congr 2
    show F a - F b = F a - 9223372036854775807 - (F b - 9223372036854775807)
    omega
/-- Graph, behind the sort: the sorted list is added. -/
def SortedPost (w2 : World) (M : List ByteArray) (F : ByteArray → Int) (e : Ending) (w' : World) (v : Value) : Prop :=
  ∃ l : List ByteArray, e = .returned (.tuple #[]) ∧ l.Perm M ∧ Rise F l 0 l.length ∧ St w2 w' [⟨v, 9, 1, l.length, ss l⟩] []
theorem sort_rg (w2 w5 : World) (v : Value) (M : List ByteArray) (gp : Nat) (F : ByteArray → Int) (hc : CmpOK w2 gp F) (hs : St w2 w5 [⟨v, 9, 1, M.length, ss M⟩] []) (h40 : M.length ≤ 40) :
    Calls Tryz.prog 26 #[v, .func (Fn.func 27) #[] #[.pointer (some ⟨gp, 0, none⟩)]] w5 fun e w' => SortedPost w2 M F e w' v := by
  rcases own_form2 (hs.own _ (List.mem_cons_self ..)) with ⟨hv, hm0⟩ | ⟨gs, cs, hv⟩
  · simp only [] at hv hm0
    subst hv
    obtain rfl : M = [] := List.eq_nil_of_length_eq_zero hm0
    refine (rgsortStable_nil w5 _).mono ?_
    rintro e w3 ⟨rfl, rfl⟩
    exact ⟨[], rfl, List.Perm.refl _, fun i j _ _ hj => by simp at hj, hs⟩
  · simp only [] at hv
    subst hv
    refine (sortStable_any w2 w5 gs M.length cs gp [] _ hc M hs rfl h40).mono ?_
    rintro e w3 ⟨l, rfl, hs3, hmv, hrz⟩
    refine ⟨l, rfl, hmv.perm, by rw [hmv.perm.length_eq]; exact hrz, ?_⟩
    rw [hmv.perm.length_eq]
    exact hs3
set_option maxRecDepth 200000 in
set_option maxHeartbeats 4000000 in
theorem graph_any (g2 g3 g5 : Nat) (l : List (List UInt8)) (lie : Bool) (v : Value) (ids : List ByteArray) (most : Nat) (w : World) (h : SM w g2 g3 g5 l lie) (hz : ∀ x ∈ l, x.length ≤ 1000000000) (hl : l.length ≤ 1000000) (hv : Sl w 1 v ids.length (ss ids)) (hil : ids.length ≤ 1000000) (hm1 : 1 ≤ most) (hm2 : most ≤ 2000) (hf : SrcOK (srcF l lie)) :
    Calls Tryz.prog 9 #[.func (Fn.func 21) #[] #[.pointer (some ⟨g2, 0, none⟩), .pointer (some ⟨g3, 0, none⟩), .pointer (some ⟨g5, 0, none⟩)], v, .int .i64 (most : Int)] w (GrfPost (srcF l lie) ids most w) := by
  have HCM := Mx.hid (commits_any g2 g3 g5 l lie v ids most w h hz hl hv hil hm1 hm2)
  have HF := Mx.hid hf
  have HWI := Mx.hid (within_any (most : Int) w)
  obtain ⟨ao, cap, rfl, _⟩ := hv.form
  rw [show decide (1 ≤ (most : Int)) = true from decide_eq_true (by omega), show decide ((most : Int) ≤ 2000) = true from decide_eq_true (by omega)] at HWI
  clear h hz hv hf
  generalize srcF l lie = f at *
  go_enter Tryz.func9, Tryz.ntmps9
  go_wp2_with fail
  refine HWI.out.mono ?_
  rintro e w1 ⟨rfl, rfl⟩
  go_wp2_with fail
  refine HCM.out.mono ?_
  rintro e w1 (⟨D, B, rfl, hs1, hm, hB, hg⟩ | ⟨er, her, rfl, hs1, hg⟩)
  case inr =>
    have HG := Mx.hid (And.intro her (HasG.no hg))
    have q1 : decide (er = 0) = false := decide_eq_false her
    have q2 : (er == 0) = false := by simpa using her
    have q3 : (er != 0) = true := by simpa using her
    clear hg her
    go_wp2_with ((with_reducible show wpList _ _ _ _ _ _); refine wpl_store1 rfl 63 _ _ rfl (hs1.madeAt #[.map none] 63 1 1 _ rfl (by simp [maxLen]) rfl) (0) rfl (.map none) rfl rfl (by kernel_rfl) (by simp) rfl ?_; intro w2 hs2)
    go_ret2
    exact .inr ⟨er, HG.out.1, rfl, hs2.bare, HG.out.2⟩
  case inl =>
  have HM := Mx.hid hm
  have HG := Mx.hid hg
  have HB := Mx.hid hB
  clear hm hg hB HCM
  obtain ⟨M, hMd⟩ : ∃ M, M = D.map (·.1) := ⟨_, rfl⟩
  go_upto_region 7 with (((with_reducible show wpList _ _ _ _ _ _); refine wpl_store1 rfl 63 _ _ rfl ((St.refl w1).madeAt #[.map none] 63 1 1 _ rfl (by simp [maxLen]) rfl) (0) rfl (.map (some B)) rfl rfl (by kernel_rfl) (by simp) rfl ?_; intro w2 hs2))
  have c2 : w2.cell? ⟨w1.heap.size, 0, none⟩ = some (.map (some B)) := hs2.cell (j := 0) rfl
  generalize w1.heap.size = gp at c2 hs2 ⊢
  have hs12 := hs1.call hs2
  have HD := Mx.hid (fun (d : Dn) (hd : d ∈ D) => (show Sl w2 1 d.2.2.2 (nbP f d.1).length (ss (nbP f d.1)) from hs12.rd (rdC f d) (List.mem_map.2 ⟨d, hd, rfl⟩)))
  have HM2 := Mx.hid (HM.out.grow hs2.below)
  have HC := Mx.hid (cmp_okr gp B (D.map (enC f)) (stE f M) w2 HM2.out (by rw [hMd]; exact stm_dn f D) c2 (stE_b HF.out M))
  have HS12 := Mx.hid hs12.bare
  have h40 : M.length ≤ 40 := by rw [hMd]; exact HF.out.len HG.out.nod HG.out.all
  have HMD := Mx.hid hMd
  rw [← hMd] at HG
  obtain ⟨w3, hrun, hrg, hbl, hsz⟩ := run_mrange (P := Tryz.prog) Tryz.underlying63 HM2.out
  have hs3 : St w2 w3 [] [] := (St.refl w2).grow hbl
  obtain ⟨r, hr⟩ : ∃ r, r = w2.heap.size := ⟨_, rfl⟩
  have HR := Mx.hid hr
  rw [← hr] at hrun hrg
  have HE : Hid (((D.map (enC f)).map Prod.fst) = M) := by
    show _ = _
    rw [hMd, List.map_map]
    rfl
  clear hr hsz hbl hs1 hs2 hs12 hMd HM
  have HMG : Hid (∀ x ∈ M, ∃ d ∈ D, d.1 = x ∧ mget (D.map (enC f)) x = some (OV d.2.1 d.2.2.1 d.2.2.2 ((cmt f x).getD noOb))) := Mx.hid (fun x hx => mget_dn (f := f) (by rw [← HMD.out]; exact hx))
  have HSO := Mx.hid (fun (acc : List ByteArray) v w' (h : acc.length ≤ 8000000000) (hv : Sl w' 1 v acc.length (ss acc)) => sort_any acc.length v acc w' (Nat.le_refl _) hv (by omega))
  generalize D.map (enC f) = E at *
  go_wp2_with fail
  go_loopg [10] E.length (fun kk x wr => ∃ (left : List Ent) (acc : List ByteArray), Hid (left.length ≤ kk) ∧ Hid (M.Perm (acc ++ left.map Prod.fst)) ∧ Rg wr r B E left ∧ St w2 wr [⟨x, 9, 1, acc.length, ss acc⟩] [])
  case atStart => exact ⟨E, [], Mx.hid (Nat.le_refl _), Mx.hid (by rw [HE.out]; exact List.Perm.refl _), hrg, hs3.addNil _ _⟩
  case round =>
    clear hrun hrg hs3
    obtain ⟨left, acc, HK, HP, hrg, hs⟩ := hrel
    rcases run_mnext' (P := Tryz.prog) hrg with ⟨rfl, hn⟩ | ⟨p, left', w4, hperm, hn, hrg2, hgr, hsz, hen⟩
    · have HP2 := Mx.hid (show M.Perm acc by simpa using HP.out)
      have hal : acc.length ≤ 8000000000 := by rw [← HP2.out.length_eq]; omega
      have HS2 := Mx.hid (HSO.out acc _ _ hal hs.sl0)
      have HEQ := Mx.hid (sortL_congr HP2.out)
      clear HSO HP hal hrg
      go_wp2_with fail
      refine HS2.out.mono ?_
      rintro e w5 ⟨v5, rfl, h5⟩
      have h6 : St w2 w5 [⟨v5, 9, 1, (sortL M).length, ss (sortL M)⟩] [] := by rw [HEQ.out, sortL_len]; exact hs.bare.call h5
      clear h5 hs HS2 hn
      go_wp2_with fail
      refine (sort_rg w2 w5 v5 (sortL M) gp _ HC.out h6 (by rw [sortL_len]; exact h40)).mono ?_
      rintro e w6 ⟨l, rfl, hpl, hrise, hs6⟩
      have HPL := Mx.hid (hpl.trans (sortL_perm M))
      have HRI := Mx.hid (rise_le (f := f) (M := M) hrise (fun _ => rfl) (fun x hx => HPL.out.mem_iff.1 hx))
      have HND := Mx.hid (HPL.out.nodup_iff.2 HG.out.nod)
      obtain ⟨ao, cap, blk, off, rfl, h1, h2, _, hc⟩ := hs6.sl0.txt
      have HCE := Mx.hid hc
      have hl40 : l.length ≤ 40 := by rw [HPL.out.length_eq]; exact h40
      clear hpl hrise hc h6
      go_wp2_with fail
      refine (new_g w6).mono ?_
      rintro e w7 ⟨g, B2, rfl, hB2, _, hgr, hs7⟩
      have hs8 := (hs6.call0 hs7).freeze
      have HB2 := Mx.hid (show w2.heap.size ≤ B2 from Nat.le_trans hs6.size hB2)
      have HCK := Mx.hid (fun (k : Nat) (hk : k < l.length) => (show ao = some ⟨blk, off, none⟩ ∧ w7.cell? ⟨blk, off + k, none⟩ = some (.string l[k]) from ⟨(HCE.out k hk).1, hs7.keep (HCE.out k hk).2⟩))
      dsimp only at hs8
      clear hs6 hB2 HCE
      go_wp2_with fail
      go_loopw [47] (fun y wr => ∃ (i : Nat) (G : List Gd), y = .int .i64 i ∧ i ≤ l.length ∧ St w2 wr [] [⟨.slice ao l.length cap, 1, l.length, ss l⟩] ∧ GR wr g B2 G ∧ Hid (G.map (·.2) = (l.take i).map (ndOf f)) ∧ Hid (∀ m ∈ l.take i, ∀ p ∈ nbP f m, stp f p < stp f m)) (fun y _ => l.length - (intOf y).toNat)
      case atStart => exact ⟨0, [], rfl, by omega, hs8, hgr, rfl, Mx.hid (by simp)⟩
      case round =>
        clear hs8 hgr hs7 HCK
        obtain ⟨i, G, rfl, hi, hs, hGR, HGL, HUP⟩ := hrel
        by_cases hlt : i < l.length
        · have hq := hs.q0
          obtain ⟨_, _, blk', off', he9, _, _, _, hcc⟩ := hq.txt
          cases he9
          obtain ⟨rfl, c1⟩ := hcc i hlt
          have hxM := HPL.out.mem_iff.1 (List.getElem_mem hlt)
          obtain ⟨d, hd, hdx, hmg⟩ := HMG.out l[i] hxM
          have hsl := HD.out d hd
          rw [hdx] at hsl
          have HADD := Mx.hid (And.intro (take_ups (f := f) hlt HUP.out) (rise_bad (ids := ids) (most := most) HF.out HG.out hlt (fun x => HPL.out.mem_iff) HND.out HRI.out))
          have HTK := Mx.hid (List.take_succ_eq_append_getElem hlt)
          have HSL := Mx.hid (hs.old hsl)
          have HST := Mx.hid (stampL_nd HF.out (l.take i))
          have HS0 := Mx.hid (HF.out.st l[i])
          obtain ⟨pa, pc, hpe, _⟩ := hsl.form
          have HPB : Hid ((nbP f l[i]).length ≤ 1000000) := by
            show _ ≤ _
            cases hcm : cmt f l[i] with
            | none => exact absurd hcm (HG.out.all _ hxM)
            | some o =>
              have := cmt_par hcm
              rw [nbP_of hcm]
              omega
          have e1 : ((cmt f l[i]).getD noOb).stamp = stp f l[i] := stp_get
          unfold OV at hmg
          rw [e1, hpe] at hmg
          have HGG := Mx.hid hmg
          rw [hpe] at HSL
          have c9 := hs.keep c2
          have HM9 := Mx.hid (HM2.out.grow hs.below)
          have HGR := Mx.hid hGR
          have HNDX : Hid ((l[i], uniqL (nbP f l[i]), stp f l[i]) = ndOf f l[i]) := rfl
          clear hcc hq hd hdx hmg hsl hpe e1 hxM hGR
          generalize (cmt f l[i]).getD noOb = o at *
          generalize stp f l[i] = sz at *
          generalize hnb : nbP f l[i] = ps at *
          generalize l[i] = x at *
          have k4 := Tryz.fldOP
          have k5 := Tryz.fldOS
          clear hnb
          go_wp2_with ((with_reducible show wpList _ _ _ _ _ _); refine wpl_look rfl 63 _ _ false rfl Tryz.underlying63 Tryz.underlying9 Tryz.zeroOb (by exact HM9.out) rfl x rfl ?_; rw [HGG.out])
          refine (add_g2 g B2 G x (.slice pa ps.length pc) ps sz wr HGR.out HGR.out.apart HSL.out HPB.out (by have := HS0.out.1; omega) HS0.out.2 (by rw [HGL.out]; exact HST.out)).mono ?_
          intro e w8 hpost
          obtain ⟨rfl, hgb, hsz8, hp⟩ := hpost
          rw [HGL.out] at hp ⊢
          rcases hp with ⟨h0, hGR2, hs9⟩ | ⟨h0, u, hGR2, _⟩
          · have HNO := Mx.hid (HADD.out.2 h0)
            generalize addE ((l.take i).map (ndOf f)) x ps sz = er at *
            have q1 : decide (er = 0) = false := decide_eq_false h0
            have q2 : (er == 0) = false := by simpa using h0
            clear h0 HADD
            go_wp2_with fail
            go_ret2
            exact .inr ⟨1, by decide, rfl, HS12.out.call0 (hs.bare.call0 hs9), HNO.out⟩
          · have HUP2 := Mx.hid (HADD.out.1 h0)
            rw [h0]
            clear h0 HADD
            go_wp2_with fail
            refine ⟨⟨i + 1, G ++ [(u, x, uniqL ps, sz)], by go_num, by omega, hs.other HGR.out.mp.noRow HB2.out hgb, hGR2, ?_, HUP2⟩, by simp [intOf]; omega⟩
            show _ = _
            rw [List.map_append, HGL.out, HTK.out, List.map_append]
            congr 1
            show [_] = [_]
            rw [HNDX.out]
        · have HTA := Mx.hid (show l.take i = l from List.take_of_length_le (by omega))
          rw [HTA.out] at HGL HUP
          go_wp2_with fail
          go_ret2
          exact .inl ⟨g, B2, G, l, rfl, HS12.out.call0 hs.bare, hGR, HGL.out, HG.out.perm HND.out (fun x => HPL.out.mem_iff), HUP.out⟩
    · have hs2 := hs.other hrg.noRow (Nat.le_of_eq HR.out.symm) hgr
      have HP2 := Mx.hid (perm_step HP.out hperm)
      have HK2 := Mx.hid (show left'.length < gk by have h1 := HK.out; have h2 := hperm.length_eq; simp at h2; omega)
      have hal : acc.length ≤ 8000000000 := by have h1 := HP2.out.length_eq; simp at h1; omega
      have HRG := Mx.hid hrg2
      clear hs hrg hrg2 hgr hsz hperm HK HP
      obtain ⟨p1, p2⟩ := p
      simp only [] at hn hen HP2
      go_wp2_with (at_builtin; refine wpl_appG rfl _ _ 23 rfl Tryz.elStr (hs2.alloc _) rfl (by exact Sl.one _ _ _) (by intro u hu; simp at hu; subst hu; rfl) (by omega) ?_; intro v4 w5 hs4 hg4)
      go_roundg left'.length
      case measure => exact HK2.out
      case rel =>
        have hr5 := HRG.out.grow ((Below.refl _ _).alloc (Nat.le_refl _) (.cells #[.string p1] 9))
        have how := (hs2.alloc (.cells #[.string p1] 9)).own _ (List.mem_cons_self ..)
        exact ⟨left', acc ++ [p1], Mx.hid (Nat.le_refl _), HP2, hr5.kept hg4 (hr5.noRow.apart how) (hr5.mp.apart how), hs4.cast (by simp) (by rw [ss_app]; rfl)⟩
end Go.Proofs.YtloogjdafhjheaaGreat
