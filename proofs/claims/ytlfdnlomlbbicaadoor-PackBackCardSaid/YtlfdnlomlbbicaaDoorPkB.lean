/- What was written is read: the plain law; PackBack's walk. -/
import Derived.Test.YtlfdnlomlbbicaaDoorJCPkY
import Derived.Test.YtlfdnlomlbbicaaDoorJDPkX
namespace Go.Mx
open Go Go.RowKit
theorem ent_ne {pre : List (List UInt8 × Nat)} {x : List UInt8} : 1 ≤ (entP pre x).1.length := by
  by_cases h : nearN pre x = 0
  · rw [ent_0 h]; simp [whP]
  · obtain ⟨⟨b, d⟩, hp, _, h2⟩ := nearN_ok h
    by_cases hm : (makeR b x).length < x.length
    · rw [ent_1 rfl h hp hm]; simp
    · rw [ent_2 rfl h hp hm]; simp [whP]
theorem pk_mono {l : List (List UInt8)} {i : Nat} (h : i < l.length) : (pkAll (l.take i)).1.length < (pkAll (l.take (i + 1))).1.length := by
  rw [pk_take h, pkStep, List.length_append]
  have := ent_ne (pre := (pkAll (l.take i)).2) (x := l[i])
  omega
theorem pk_mono_le {l : List (List UInt8)} {i : Nat} : ∀ (n : Nat), i + n ≤ l.length → (pkAll (l.take i)).1.length ≤ (pkAll (l.take (i + n))).1.length
  | 0, _ => Nat.le_refl _
  | n + 1, h => by
    have h1 := pk_mono_le (l := l) (i := i) n (by omega)
    have h2 := pk_mono (l := l) (i := i + n) (by omega)
    rw [← Nat.add_assoc]
    omega
theorem putL_pos' (n : Nat) : 1 ≤ (putL n).length := by
  rw [putL]
  split <;> simp
/-- What was written is read. -/
theorem rdPack_pk (f : ByteArray → Option (List UInt8)) {l : List (List UInt8)} (hx : ∀ x ∈ l, x.length ≤ 20000) (hd : ∀ x ∈ l, (decO x).2 = 0) (hl : l.length ≤ 512) :
    ∃ pl, rdPack f (packL l) = (0, (pkAll l).2, pl) ∧ pl.length = l.length ∧ (∀ (j q : Nat), pl[j]? = some q → 4 ≤ q) ∧ (∀ (j q r : Nat), pl[j]? = some q → pl[j + 1]? = some r → q < r) := by
  have hs := sha_len (pkB l)
  have hp := putL_pos' l.length
  have hB : 4 ≤ (pkB l).length := by simp only [pkB, List.length_append, List.length_cons, List.length_nil]; omega
  have hlen : (packL l).length - 32 = (pkB l).length := by rw [packL, List.length_append, hs]; omega
  have h36 : ¬ (packL l).length < 36 := by rw [packL, List.length_append, hs]; omega
  have htk : (packL l).take (pkB l).length = pkB l := by rw [packL, List.take_left]
  have hdr : (packL l).drop (pkB l).length = sha (pkB l) := by rw [packL, List.drop_left]
  have h3 : (pkB l).take 3 = [77, 80, 49] := by rw [pkB, List.append_assoc]; rfl
  have h3' : (pkB l).drop 3 = putL l.length ++ (pkAll l).1 := by rw [pkB, List.append_assoc]; rfl
  obtain ⟨n1, n2, n3⟩ := nm_put (n := l.length) (by omega) (pkAll l).1
  have n4 := nm_drop (n := l.length) (by omega) (pkAll l).1
  obtain ⟨pl, g1, g2, g3⟩ := rdAll_pk (f := f) hx hd (by omega) (pkB l).length l.length 0 (by omega) [] (pkAll l).1 (by rw [List.take_zero]; rfl)
  have g1' : rdAll f (pkB l).length l.length [] [] (pkAll l).1 = (0, (pkAll l).2, pl) := by rw [List.take_zero] at g1; exact g1
  have hpb : (pkB l).length = 3 + (putL l.length).length + (pkAll l).1.length := by simp only [pkB, List.length_append, List.length_cons, List.length_nil]
  have hq : ∀ (j q : Nat), pl[j]? = some q → j < l.length ∧ q = 3 + (putL l.length).length + (pkAll (l.take j)).1.length := by
    intro j q h
    have hj : j < l.length := by rw [← g2]; exact (List.getElem?_eq_some_iff.1 h).1
    have h1 := g3 j q h
    have h2 := pk_mono_le (l := l) (i := j) (l.length - j) (by omega)
    rw [Nat.add_sub_cancel' (by omega), List.take_length] at h2
    rw [Nat.zero_add] at h1
    exact ⟨hj, by omega⟩
  refine ⟨pl, ?_, g2, fun j q h => ?_, fun j q r h1 h2 => ?_⟩
  · unfold rdPack
    rw [if_neg h36, hlen, htk, hdr, if_neg (by simp)]
    unfold rdBody
    rw [h3, if_neg (by simp), h3', n3, if_neg (by simp), n1, if_neg (by omega), n4]
    exact g1'
  · have := hq j q h
    omega
  · have a := hq j q h1
    have b := hq (j + 1) r h2
    have c := pk_mono a.1
    omega
theorem mayE_ok {l : List (List UInt8)} (h : mayE l = 0) : ∀ x ∈ l, (decO x).2 = 0 := fun x hx => by
  by_cases hd : (decO x).2 = 0
  · exact hd
  · rw [mayE_4 hx hd] at h; cases h
theorem rws_get0 : ∀ (pre : List (List UInt8 × Nat)) (pl : List Nat) (k : Nat) (h : k < pre.length), pl.length = pre.length → (rws pre pl)[k * 3]? = some (.string (idB pre[k].1))
  | p :: pre, q :: pl, 0, _, _ => rfl
  | p :: pre, q :: pl, k + 1, h, hl => by
    rw [rws, show (k + 1) * 3 = (rwc p.1 q p.2).length + k * 3 by simp [rwc]; omega, List.getElem?_append_right (by omega), Nat.add_sub_cancel_left]
    exact rws_get0 pre pl k (by simpa using h) (by simpa using hl)
theorem rws_get1 : ∀ (pre : List (List UInt8 × Nat)) (pl : List Nat) (k : Nat) (h : k < pl.length), pl.length = pre.length → (rws pre pl)[k * 3 + 1]? = some (.int .i64 (pl[k] : Int))
  | [], _ :: _, _, _, hl => by simp at hl
  | p :: pre, q :: pl, 0, _, _ => rfl
  | p :: pre, q :: pl, k + 1, h, hl => by
    rw [rws, show (k + 1) * 3 + 1 = (rwc p.1 q p.2).length + (k * 3 + 1) by simp [rwc]; omega, List.getElem?_append_right (by omega), Nat.add_sub_cancel_left]
    exact rws_get1 pre pl k (by simpa using h) (by simpa using hl)
end Go.Mx
namespace Go.Proofs.YtlfdnlomlbbicaaDoor
open Go.RowKit Go.Mx
theorem none_any (id : ByteArray) (w : World) : Calls Tryd.prog 9 #[.string id] w (SourceAns none w) := by
  go_enter Tryd.func9, Tryd.ntmps9
  go_wp2_with fail
  go_ret2
  exact ⟨rfl, St.refl w⟩
theorem none_base (w : World) : BaseOk 9 #[] (fun _ => none) w where
  ent args w := by
    have hf := Tryd.func9
    have h1 : Tryd.f9.name ≠ "runtime.NumGoroutine" := by decide +kernel
    have h2 : Tryd.f9.body.isNone = false := by kernel_rfl
    have h3 : ¬ Tryd.f9.body = none := fun h => by rw [h] at h2; cases h2
    simp [callFunc, hf, h1, h3]
  ans w R Q id _ := none_any id w
set_option maxRecDepth 200000 in
set_option maxHeartbeats 4000000 in
theorem packBackRow (v : Value) (l : List (List UInt8)) {w : World} (hv : LL w v l) (hz : ∀ x ∈ l, x.length ≤ reachBytes) (_w : World) (hLd : Laid w) (hId : IndexOk w) :
    Calls Tryd.prog 4 #[v] w fun e w' => e = .returned (.bool true) ∧ Below w.heap.size w w' := by
  have HL := Mx.hid (fun w' (h : St w w' [] []) => hLd.keep h)
  have HI := Mx.hid (fun w' (h : St w w' [] []) => hId.keep h)
  have HV := Mx.hid hv
  have HZ := Mx.hid hz
  obtain ⟨ao, cap, blk, off, us, rfl, h1, h2, hc, hs⟩ := hv.at
  have HC := Mx.hid (fun k hk => (⟨(hc k hk).1, (hc k hk).2⟩ : ao = some ⟨blk, off, none⟩ ∧ w.cell? ⟨blk, off + k, none⟩ = some (us k)))
  have HS := Mx.hid hs
  clear hv hz hc hs hLd hId
  go_enter Tryd.func4, Tryd.ntmps4
  go_wp2_with fail
  refine (first10_any _ (HL.out _ (St.refl w)) (HI.out _ (St.refl w))).mono ?_
  rintro e w1 ⟨rfl, hk⟩
  go_wp2_with (first | ((with_reducible show wpList _ _ _ _ _ _); refine wpl_want rfl ?_))
  refine (few10_any _ l _ (LL.old hk HV.out) (fun x hx => by have := HZ.out x hx; unfold reachBytes at this; omega)).mono ?_
  rintro e w2 ⟨b1, rfl, hk2, hb1⟩
  replace hk := hk.call0 hk2
  clear hk2
  cases b1 with
  | false =>
    go_wp2_with (first | ((with_reducible show wpList _ _ _ _ _ _); refine wpl_want rfl ?_) | (go_at_call 5; refine (first10_any _ (HL.out _ hk.bare) (HI.out _ hk.bare)).mono ?_; rintro e wf ⟨rfl, hkf⟩; replace hk := hk.call0 hkf))
    go_ret
    exact ⟨rfl, hk.below⟩
  | true =>
  obtain ⟨hl40, hl15, _⟩ := hb1 rfl
  clear hb1
  have HW := Mx.hid (pwrite_any _ l w2 (LL.old hk HV.out) (by omega) (fun x hx => by have := hl15 x hx; omega) (HL.out _ hk.bare) (HI.out _ hk.bare))
  have HPS := Mx.hid (pack_size (l := l) (fun x hx => by have := hl15 x hx; omega) (by omega))
  have HSUM := Mx.hid (sum_le' (l := l) hl15)
  have H15 := Mx.hid hl15
  clear hl15
  go_wp2_with (first | ((with_reducible show wpList _ _ _ _ _ _); refine wpl_want rfl ?_))
  refine HW.out.mono ?_
  unfold PkwPost
  rintro e w3 (⟨hme, vb, rfl, hkb⟩ | ⟨_, rfl, hkb⟩)
  case inr =>
    replace hk := hk.call0 hkb
    go_wp2_with (first | ((with_reducible show wpList _ _ _ _ _ _); refine wpl_want rfl ?_) | (go_at_call 5; refine (first10_any _ (HL.out _ hk.bare) (HI.out _ hk.bare)).mono ?_; rintro e wf ⟨rfl, hkf⟩; replace hk := hk.call0 hkf))
    go_ret
    exact ⟨rfl, hk.below⟩
  replace hk := hk.call1 hkb
  obtain ⟨pl, hrd, hpl, hp4, hpi⟩ := rdPack_pk (fun _ => none) (fun x hx => by have := H15.out x hx; omega) (mayE_ok hme) (by omega)
  have hBl : (packL l).length ≤ 140737488351232 := by have h1 := HPS.out; have h2 := HSUM.out; have h3 := Nat.mul_le_mul_left 1500 hl40; omega
  have HPK := Mx.hid (And.intro (pk_fst l) (And.intro (pk_len l) (pk_depth l)))
  clear hkb HW HPS HSUM hme
  generalize packL l = B at *
  generalize (pkAll l).2 = pre at *
  have HRD := Mx.hid hrd
  have HPI := Mx.hid (And.intro hpl (And.intro hp4 hpi))
  clear hrd hp4 hpi hpl
  go_wp2_with fail
  refine (pparse_any w3 vb B 9 #[] (fun _ => none) hk.sl0 hBl (none_base w3) (fun _ _ h => by cases h) (HL.out _ hk.bare)).mono ?_
  unfold ParsePost
  rw [HRD.out]
  rintro e w4 ⟨vx, rfl, hk4, hx⟩
  rw [if_pos rfl, HPK.out.1] at hx
  replace hk := hk.call0 hk4
  clear hk4
  go_wp2_with fail
  refine (pindex_any w4 vb B 9 #[] (fun _ => none) hk.sl0 hBl (none_base w4) (fun _ _ h => by cases h) (HL.out _ hk.bare)).mono ?_
  unfold IndexPost
  rw [HRD.out]
  rintro e w5 (⟨_, _, vr, rfl, hk5⟩ | ⟨h, _⟩)
  case inr => exact absurd rfl h
  have HX := Mx.hid (LL.old hk5.bare hx)
  replace hk := hk.call1 hk5
  simp only at hk
  obtain ⟨ro, rc, rfl, _⟩ := id hk.sl0
  obtain ⟨xo, xc, xb, xf, xs, rfl, _⟩ := HX.out.at
  rw [HPK.out.2.1] at hk ⊢
  have hb : ((l.length : Int) != (l.length : Int)) = false := by simp
  have HLS := Mx.hid (fun (wx : World) (h : St w5 wx [] []) => lists_same _ _ l wx (LL.old h HX.out) (LL.old (hk.call0 h) HV.out))
  have HK := Mx.hid hk
  clear hk5 hx hk
  go_wp2_with (first | ((with_reducible show wpList _ _ _ _ _ _); refine wpl_want rfl ?_) | (go_at_call 11; refine (HLS.out _ (St.refl w5)).mono ?_; rintro e w6 ⟨rfl, hk6⟩))
  have hk := HK.out.call0 hk6
  have HKK := Mx.hid hk
  clear hk6 HK HLS hk
  go_loopw [10] (fun y wr => ∃ i : Nat, y = .int .i64 i ∧ i ≤ l.length ∧ St w wr [wrow (.slice ro l.length rc) l.length (rws pre pl), pbr vb B] []) (fun y _ => l.length - (intOf y).toNat)
  case atStart => exact ⟨0, rfl, by omega, HKK.out⟩
  case round =>
    clear HKK
    obtain ⟨i, rfl, hi, hk⟩ := hrel
    by_cases hlt : i < l.length
    · obtain ⟨rfl, a0⟩ := HC.out i hlt
      have hx := HS.out i hlt
      obtain ⟨xo', xc', hu, _⟩ := hx.form
      rw [hu] at a0 hx
      have hxz := H15.out _ (List.getElem_mem hlt)
      have hip : i < pre.length := by rw [HPK.out.2.1]; exact hlt
      have hil : i < pl.length := by rw [HPI.out.1]; exact hlt
      have hpp : pl.length = pre.length := by rw [HPI.out.1, HPK.out.2.1]
      have hfst : pre[i].1 = l[i] := by
        have : (pre.map Prod.fst)[i]? = l[i]? := by rw [HPK.out.1]
        rw [List.getElem?_map, List.getElem?_eq_getElem hip, List.getElem?_eq_getElem hlt] at this
        simpa using this
      have hd8 := HPK.out.2.2 _ (List.getElem_mem hip)
      have hq4 := HPI.out.2.1 i _ (List.getElem?_eq_getElem hil)
      obtain ⟨gw, gc, hro, _⟩ := hk.form0 (by omega)
      cases hro
      have g0 := rws_get0 pre pl i hip hpp
      have g1 := rws_get1 pre pl i hil hpp
      have g2 := rws_get pre pl i hip hpp
      rw [hfst] at g0
      have HG := Mx.hid (And.intro g0 (And.intro g1 g2))
      have HID := Mx.hid (fun (wx : World) (h : St w wx [wrow (.slice (some ⟨gw, 0, none⟩) l.length rc) l.length (rws pre pl), pbr vb B] []) => id_any (.slice xo' l[i].length xc') l[i] wx (h.old hx) (by omega) (fun w' h' => HL.out _ (h.call0 h').bare))
      have HIE : Hid (str (hexL (sha l[i])) = idB l[i]) := rfl
      rw [HIE.out] at HID
      have HA := Mx.hid a0
      have ht := tx_beq (x := idB l[i]) rfl
      have hii : (i : Int) < (l.length : Int) := by omega
      have d1 : decide ((pre[i].2 : Int) < 0) = false := decide_eq_false (by omega)
      have d2 : decide ((8 : Int) < (pre[i].2 : Int)) = false := decide_eq_false (by omega)
      have d3 : decide ((pl[i] : Int) < 4) = false := decide_eq_false (by omega)
      by_cases hi0 : i = 0
      · subst hi0
        rw [Nat.add_zero] at HA
        clear hx hu a0 hfst hd8 hq4 g0 g1 g2 hxz
        generalize idB l[0] = idn at *
        generalize pl[0] = P at *
        generalize pre[0].2 = D at *
        generalize l[0].length = ll at *
        go_wp2_with (first | ((with_reducible show wpList _ _ _ _ _ _); refine wpl_want rfl ?_))
        refine wp_region_C (fun W' => St w W' [wrow (.slice (some ⟨gw, 0, none⟩) l.length rc) l.length (rws pre pl), pbr vb B] []) (by kernel_rfl) (by kernel_rfl) (by exact hk.drew) ?_
        repeat ((first | (refine cq_y0 (v := ?_) (by with_reducible rfl) ?_ ?_; rotate_left 1; (focus (intro wq hq; (try dsimp only at hq); (have a1 := hq.keep HA.out; have f0 : wq.cell? ⟨gw, 0, none⟩ = some (.string idn) := hq.rcell (List.mem_cons_self ..) HG.out.1; have f1 : wq.cell? ⟨gw, 1, none⟩ = some (.int .i64 (P : Int)) := hq.rcell (List.mem_cons_self ..) HG.out.2.1; have f2 : wq.cell? ⟨gw, 2, none⟩ = some (.int .i64 (D : Int)) := hq.rcell (List.mem_cons_self ..) HG.out.2.2); go_simp; (first | done | with_reducible rfl | (go_at_call 12; refine (HID.out _ hq).mono ?_; rintro e w9 ⟨rfl, hk9⟩; refine ⟨?_, hq.call0 hk9⟩; with_reducible rfl))))) | (refine cq_no (by go_simp; first | done | (intro h9; cases h9)) ?_) | (refine cq_yes (v := ?_) (by go_simp) ?_ ?_; rotate_left 1; (focus (intro wq hq; (try dsimp only at hq); (have a1 := hq.keep HA.out; have f0 : wq.cell? ⟨gw, 0, none⟩ = some (.string idn) := hq.rcell (List.mem_cons_self ..) HG.out.1; have f1 : wq.cell? ⟨gw, 1, none⟩ = some (.int .i64 (P : Int)) := hq.rcell (List.mem_cons_self ..) HG.out.2.1; have f2 : wq.cell? ⟨gw, 2, none⟩ = some (.int .i64 (D : Int)) := hq.rcell (List.mem_cons_self ..) HG.out.2.2); go_simp; (first | done | with_reducible rfl | (go_at_call 12; refine (HID.out _ hq).mono ?_; rintro e w9 ⟨rfl, hk9⟩; refine ⟨?_, hq.call0 hk9⟩; with_reducible rfl)))))); (try simp only [Act.put, List.setIfInBounds_toArray, List.set_cons_zero, List.set_cons_succ]))
        refine cq_nil ?_
        intro wq hq
        (try dsimp only at hq)
        go_wp2_with (first | ((with_reducible show wpList _ _ _ _ _ _); refine wpl_want rfl ?_))
        exact ⟨⟨1, by go_num, by omega, hq⟩, by simp [intOf]; omega⟩
      · obtain ⟨j, hj⟩ : ∃ j, i = j + 1 := ⟨i - 1, by omega⟩
        have hjl : j < pl.length := by omega
        have hij : (i : Int) - 1 = (j : Int) := by omega
        have hw : IntKind.i64.wrap ((i : Int) - 1) = (j : Int) := (IntWalk.i64_in _ (by omega)).trans hij
        have hw2 : IntKind.i64.wrap (j : Int) = (j : Int) := IntWalk.i64_in _ (by omega)
        have hjI : (j : Int) < (l.length : Int) := by omega
        have d0 : decide (0 < i) = true := decide_eq_true (by omega)
        have d0' : 0 < i := by omega
        have g3 := rws_get1 pre pl j hjl hpp
        have hlt2 := HPI.out.2.2 j _ _ (List.getElem?_eq_getElem hjl) (by rw [← hj]; exact List.getElem?_eq_getElem hil)
        have HG3 := Mx.hid g3
        have d4 : decide (pl[i] ≤ pl[j]) = false := decide_eq_false (by omega)
        clear hx hu a0 hfst hd8 hq4 g0 g1 g2 hxz g3 hlt2 hj hi0
        generalize idB l[i] = idn at *
        generalize pl[i] = P at *
        generalize pl[j] = P2 at *
        generalize pre[i].2 = D at *
        generalize l[i].length = ll at *
        go_wp2_with (first | ((with_reducible show wpList _ _ _ _ _ _); refine wpl_want rfl ?_))
        refine wp_region_C (fun W' => St w W' [wrow (.slice (some ⟨gw, 0, none⟩) l.length rc) l.length (rws pre pl), pbr vb B] []) (by kernel_rfl) (by kernel_rfl) (by exact hk.drew) ?_
        repeat ((first | (refine cq_y0 (v := ?_) (by with_reducible rfl) ?_ ?_; rotate_left 1; (focus (intro wq hq; (try dsimp only at hq); (have a1 := hq.keep HA.out; have f0 : wq.cell? ⟨gw, i * 3, none⟩ = some (.string idn) := hq.rcell (List.mem_cons_self ..) HG.out.1; have f1 : wq.cell? ⟨gw, i * 3 + 1, none⟩ = some (.int .i64 (P : Int)) := hq.rcell (List.mem_cons_self ..) HG.out.2.1; have f2 : wq.cell? ⟨gw, i * 3 + 2, none⟩ = some (.int .i64 (D : Int)) := hq.rcell (List.mem_cons_self ..) HG.out.2.2; have f3 : wq.cell? ⟨gw, j * 3 + 1, none⟩ = some (.int .i64 (P2 : Int)) := hq.rcell (List.mem_cons_self ..) HG3.out); go_simp; (first | done | with_reducible rfl | (go_at_call 12; refine (HID.out _ hq).mono ?_; rintro e w9 ⟨rfl, hk9⟩; refine ⟨?_, hq.call0 hk9⟩; with_reducible rfl))))) | (refine cq_no (by go_simp; first | done | (intro h9; cases h9)) ?_) | (refine cq_yes (v := ?_) (by go_simp) ?_ ?_; rotate_left 1; (focus (intro wq hq; (try dsimp only at hq); (have a1 := hq.keep HA.out; have f0 : wq.cell? ⟨gw, i * 3, none⟩ = some (.string idn) := hq.rcell (List.mem_cons_self ..) HG.out.1; have f1 : wq.cell? ⟨gw, i * 3 + 1, none⟩ = some (.int .i64 (P : Int)) := hq.rcell (List.mem_cons_self ..) HG.out.2.1; have f2 : wq.cell? ⟨gw, i * 3 + 2, none⟩ = some (.int .i64 (D : Int)) := hq.rcell (List.mem_cons_self ..) HG.out.2.2; have f3 : wq.cell? ⟨gw, j * 3 + 1, none⟩ = some (.int .i64 (P2 : Int)) := hq.rcell (List.mem_cons_self ..) HG3.out); go_simp; (first | done | with_reducible rfl | (go_at_call 12; refine (HID.out _ hq).mono ?_; rintro e w9 ⟨rfl, hk9⟩; refine ⟨?_, hq.call0 hk9⟩; with_reducible rfl)))))); (try simp only [Act.put, List.setIfInBounds_toArray, List.set_cons_zero, List.set_cons_succ]))
        refine cq_nil ?_
        intro wq hq
        (try dsimp only at hq)
        go_wp2_with (first | ((with_reducible show wpList _ _ _ _ _ _); refine wpl_want rfl ?_))
        exact ⟨⟨i + 1, by go_num, by omega, hq⟩, by simp [intOf]; omega⟩
    · obtain rfl : i = l.length := by omega
      go_wp2_with (first | ((with_reducible show wpList _ _ _ _ _ _); refine wpl_want rfl ?_) | (go_at_call 5; refine (first10_any _ (HL.out _ hk.bare) (HI.out _ hk.bare)).mono ?_; rintro e wf ⟨rfl, hkf⟩; replace hk := hk.call0 hkf))
      go_ret
      exact ⟨rfl, hk.below⟩
end Go.Proofs.YtlfdnlomlbbicaaDoor
