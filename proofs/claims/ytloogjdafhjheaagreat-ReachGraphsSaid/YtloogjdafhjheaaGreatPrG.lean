/- Walks of marref9.Source.Get, of marlaw10.Told. -/
import Derived.Test.YtloogjdafhjheaaGreatRcT
namespace Go.Mx
open Go Go.RowKit
/-- The names that a told source has. -/
def idsT (l : List (List UInt8)) (lie : Bool) : List ByteArray := (List.range l.length).map fun i => idB (l.getD (kB l lie i) [])
theorem idsT_len (l : List (List UInt8)) (lie : Bool) : (idsT l lie).length = l.length := by simp [idsT]
theorem idsT_get {l : List (List UInt8)} {lie : Bool} {k : Nat} (hk : k < l.length) : (idsT l lie)[k]'(by rw [idsT_len]; exact hk) = idB (l.getD (kB l lie k) []) := by simp [idsT]
theorem idsT_take {l : List (List UInt8)} {lie : Bool} {k : Nat} (hk : k < l.length) : (idsT l lie).take (k + 1) = (idsT l lie).take k ++ [idB (l.getD (kB l lie k) [])] := by
  rw [List.take_succ_eq_append_getElem (by rw [idsT_len]; exact hk), idsT_get hk]
theorem perm_told {α : Type} (a b c d : α) : [a, b, c, d].Perm [c, a, d, b] :=
  ((List.Perm.cons a (List.Perm.swap c b [d])).trans (List.Perm.swap c a [b, d])).trans (List.Perm.cons c (List.Perm.cons a (List.Perm.swap d b [])))
theorem perm_told2 {α : Type} (a b c d : α) : [a, b, c, d].Perm [c, b, a, d] :=
  (List.Perm.swap b a [c, d]).trans (((List.Perm.cons b (List.Perm.swap c a [d])).trans (List.Perm.swap c b [a, d])))
end Go.Mx
namespace Go.Proofs.YtloogjdafhjheaaGreat
open Go.RowKit Go.Mx
/-- The value of a told source. -/
abbrev stv (vi vo : Value) : Value := .agg #[vi, vo, .pointer none]
set_option maxRecDepth 100000 in
set_option maxHeartbeats 2000000 in
theorem sget_any (vi vo : Value) (l : List (List UInt8)) (lie : Bool) (id : ByteArray) (w : World) (hi : Sl w 1 vi l.length (ss (idsT l lie))) (ho : LL w vo l) (hz : ∀ x ∈ l, x.length ≤ 140737488351232) :
    Calls Tryz.prog 32 #[stv vi vo, .string id] w (SourceAns (srcF l lie id) w) := by
  obtain ⟨ao, cap, blk, off, us, rfl, h1, h2, hc, hs⟩ := ho.at
  rw [← idsT_len l lie] at hi
  obtain ⟨bo, bcap, blk', off', rfl, i1, i2, hll, hic⟩ := hi.txt
  rw [idsT_len] at i1 ⊢
  have HC := Mx.hid (fun k hk => (⟨(hc k hk).1, (hc k hk).2⟩ : ao = some ⟨blk, off, none⟩ ∧ w.cell? ⟨blk, off + k, none⟩ = some (us k)))
  have HS := Mx.hid hs
  have HZ := Mx.hid (fun (k : Nat) (hk : k < l.length) => hz l[k] (List.getElem_mem hk))
  have HI := Mx.hid (fun (k : Nat) (hk : k < l.length) => (show bo = some ⟨blk', off', none⟩ ∧ w.cell? ⟨blk', off' + k, none⟩ = some (.string (idB (l.getD (kB l lie k) []))) from by
    have := hic k (by rw [idsT_len]; exact hk)
    rw [idsT_get hk] at this
    exact this))
  have HST : Hid (srcF l lie id = srcI l lie id 0) := Mx.hid (by unfold srcF; rfl)
  generalize srcF l lie id = so at *
  clear hi ho hc hs hz hic hll
  go_enter Tryz.func32, Tryz.ntmps32
  go_wp2_with (((with_reducible show wpList _ _ _ _ _ _); refine wpl_box rfl 31 _ rfl (St.refl w) ([.slice bo l.length bcap, .slice ao l.length cap, .pointer none]) (by rfl) ?_; intro gx wx hsx))
  go_loopw [6] (fun y wr => ∃ i : Nat, y = .int .i64 i ∧ i ≤ l.length ∧ Hid (so = srcI l lie id i) ∧ St w wr [⟨.slice (some ⟨gx, 0, none⟩) 1 1, 31, 3, 1, [.slice bo l.length bcap, .slice ao l.length cap, .pointer none]⟩] []) (fun y _ => l.length - (intOf y).toNat)
  case atStart => exact ⟨0, rfl, by omega, HST, hsx⟩
  case round =>
    clear HST hsx
    obtain ⟨i, rfl, hi, HSI, hq⟩ := hrel
    have c0 : wr.cell? ⟨gx, 0, none⟩ = some (.slice bo l.length bcap) := hq.rcell (List.mem_cons_self ..) rfl
    have c1 : wr.cell? ⟨gx, 1, none⟩ = some (.slice ao l.length cap) := hq.rcell (List.mem_cons_self ..) rfl
    have c2 : wr.cell? ⟨gx, 2, none⟩ = some (.pointer none) := hq.rcell (List.mem_cons_self ..) rfl
    by_cases hlt : i < l.length
    · obtain ⟨rfl, a0⟩ := HC.out i hlt
      obtain ⟨rfl, b0⟩ := HI.out i hlt
      have hx := HS.out i hlt
      obtain ⟨xo, xc, hu, _⟩ := Sl.form hx
      replace a0 := hq.keep a0
      replace b0 := hq.keep b0
      rw [hu] at a0 hx
      have HXX := Mx.hid (copyBytes_any _ l[i] wr (hq.old hx) (by have := HZ.out i hlt; omega))
      have HSR := Mx.hid (show so = if idB (l.getD (kB l lie i) []) = id then some (l.getD i []) else srcI l lie id (i + 1) by rw [HSI.out, srcI, if_pos hlt])
      have HGD := Mx.hid (show l.getD i [] = l[i] by rw [List.getD_eq_getElem?_getD, List.getElem?_eq_getElem hlt]; rfl)
      have hii : (i : Int) < (l.length : Int) := by omega
      clear hx hu HSI
      generalize idB (l.getD (kB l lie i) []) = idk at *
      by_cases he : idk = id
      · have hb : (idk.toList == id.toList) = true := tx_beq he
        have HF := Mx.hid (show so = some l[i] by rw [HSR.out, if_pos he, HGD.out])
        clear he
        go_wp2_with fail
        refine HXX.out.mono ?_
        rintro e w1 ⟨v, rfl, hk1⟩
        go_wp2_with fail
        go_ret2
        rw [HF.out]
        exact ⟨_, rfl, hq.bare.call hk1⟩
      · have hb : (idk.toList == id.toList) = false := tx_bne he
        have HF := Mx.hid (show so = srcI l lie id (i + 1) by rw [HSR.out, if_neg he])
        clear he
        go_wp2_with fail
        exact ⟨⟨i + 1, by go_num, by omega, HF, hq⟩, by simp [intOf]; omega⟩
    · obtain rfl : i = l.length := by omega
      have HF := Mx.hid (show so = none by rw [HSI.out, srcI, if_neg (by omega)])
      go_wp2_with fail
      go_ret2
      rw [HF.out]
      exact ⟨rfl, hq.bare⟩

theorem Tryz.aSrc : Ag Tryz.prog 31 3 := ⟨⟨_, Tryz.underlying31, rfl⟩, by kernel_rfl⟩
def ToldPost (l : List (List UInt8)) (lie : Bool) (w : World) (e : Ending) (w' : World) : Prop :=
  ∃ vi vo, e = .returned (stv vi vo) ∧ St w w' [] [] ∧ Sl w' 1 vi l.length (ss (idsT l lie)) ∧ LL w' vo l
abbrev told1 (g : Nat) (vi vo : Value) : Row := ⟨.slice (some ⟨g, 0, none⟩) 1 1, 31, 3, 1, [vi, vo, .pointer none]⟩
set_option maxRecDepth 200000 in
set_option maxHeartbeats 4000000 in
theorem told_any (v : Value) (l : List (List UInt8)) (lie : Bool) (w : World) (hv : LL w v l) (hz : ∀ x ∈ l, x.length ≤ 140737488351232) (hl : l.length ≤ 1000) :
    Calls Tryz.prog 8 #[v, .bool lie] w (ToldPost l lie w) := by
  obtain ⟨ao, cap, blk, off, us, rfl, h1, h2, hc, hs⟩ := hv.at
  have HC := Mx.hid (fun k hk => (⟨(hc k hk).1, (hc k hk).2⟩ : ao = some ⟨blk, off, none⟩ ∧ w.cell? ⟨blk, off + k, none⟩ = some (us k)))
  have HS := Mx.hid hs
  have HZ := Mx.hid (fun (k : Nat) (hk : k < l.length) => hz l[k] (List.getElem_mem hk))
  clear hv hc hs hz
  go_enter Tryz.func8, Tryz.ntmps8
  go_upto_region 1 with fail
  have hz := (St.refl w).madeAt #[.slice none 0 0, .slice none 0 0, .pointer none] 31 3 1 w.heap.size rfl (by simp [maxLen]) rfl
  change Code.wp _ _ _ _ (w.alloc (.cells #[.slice none 0 0, .slice none 0 0, .pointer none] 31))
  generalize w.alloc (.cells #[.slice none 0 0, .slice none 0 0, .pointer none] 31) = wz at hz ⊢
  generalize w.heap.size = gz at hz ⊢
  go_wp2_with (((with_reducible show wpList _ _ _ _ _ _); refine wpl_storeA rfl 31 _ _ rfl Tryz.aSrc (hz.madeAt #[.slice none 0 0, .slice none 0 0, .pointer none] 31 3 1 _ rfl (by simp [maxLen]) rfl) (0) rfl ([.slice none 0 0, .slice none 0 0, .pointer none]) rfl (by rfl) (by simp) (by intro u hu; simp at hu; rcases hu with rfl | rfl <;> rfl) ?_; intro w4 hs4))
  have hs5 : St w w4 [told1 wz.heap.size (.slice none 0 0) (.slice none 0 0), told1 gz (.slice none 0 0) (.slice none 0 0)] [] := hs4.cast rfl (by simp)
  have HS6 : Hid (St w w4 [⟨.slice none 0 0, 51, 1, 0, []⟩, told1 wz.heap.size (.slice none 0 0) (.slice none 0 0), told1 gz (.slice none 0 0) (.slice none 0 0), ⟨.slice none 0 0, 9, 1, 0, []⟩] []) := Mx.hid (((hs5.addNil 9 1).perm (List.perm_append_comm (l₁ := [_]) (l₂ := [_, _]))).addNil 51 1)
  clear hs5 hs4 hz
  generalize wz.heap.size = g at *
  go_loopw [6] (fun y wr => ∃ (i : Nat) (vi vo : Value) (vs : List Value), y = .int .i64 i ∧ i ≤ l.length ∧ Hid (vs.length = (l.take i).length) ∧ St w wr [⟨vo, 51, 1, i, vs⟩, told1 g vi vo, told1 gz (.slice none 0 0) (.slice none 0 0), ⟨vi, 9, 1, i, ss ((idsT l lie).take i)⟩] (rds vs (l.take i))) (fun y _ => l.length - (intOf y).toNat)
  case atStart => exact ⟨0, _, _, [], rfl, by omega, rfl, by rw [List.take_zero, List.take_zero]; exact HS6.out⟩
  case round =>
    clear HS6
    obtain ⟨i, vi, vo, vs, rfl, hi, HVS, hs⟩ := hrel
    have hvi : Sl wr 1 vi i (ss ((idsT l lie).take i)) := hs.sl (r := ⟨vi, 9, 1, i, ss ((idsT l lie).take i)⟩) (by simp)
    obtain ⟨io, ic, rfl, _⟩ := id hvi
    obtain ⟨oo, oc, rfl, _⟩ := id hs.sl0
    clear hvi
    by_cases hlt : i < l.length
    · obtain ⟨rfl, a0⟩ := HC.out i hlt
      have hx := HS.out i hlt
      have hxz := HZ.out i hlt
      obtain ⟨xo, xc, hu, _⟩ := Sl.form hx
      have hK := kB_lt (lie := lie) hlt
      obtain ⟨_, b0⟩ := HC.out _ hK
      have hy := HS.out _ hK
      have hyz := HZ.out _ hK
      obtain ⟨yo, yc, hu2, _⟩ := Sl.form hy
      rw [hu] at a0 hx
      rw [hu2] at b0 hy
      have HTK := Mx.hid (List.take_succ_eq_append_getElem hlt)
      have HTI := Mx.hid (idsT_take (lie := lie) hlt)
      have HGD := Mx.hid (show l.getD (kB l lie i) [] = l[kB l lie i] by rw [List.getD_eq_getElem?_getD, List.getElem?_eq_getElem hK]; rfl)
      rw [HGD.out] at HTI
      have HX := Mx.hid hx
      have HY := Mx.hid hy
      have HA := Mx.hid (fun (W : World) (R : List Row) (Q : List Rd) (h : St w W R Q) => h.keep a0)
      have HB := Mx.hid (fun (W : World) (R : List Row) (Q : List Rd) (h : St w W R Q) => h.keep b0)
      have hii : (i : Int) < (l.length : Int) := by omega
      have hKK : kB l lie i = if lie = true then (i + 1) % l.length else i := rfl
      have hKI : (kB l lie i : Int) < (l.length : Int) := by omega
      clear hx hu hy hu2 a0 b0 HGD
      generalize l[i] = x at *
      generalize l[kB l lie i] = y at *
      generalize hKe : kB l lie i = K at *
      have HS0 := Mx.hid hs
      clear hs
      go_wp2_with fail
      (refine wp_region_S (9) (fun W' => W'.cell? ⟨g, 1, none⟩ = some (.slice oo i oc) ∧ W'.cell? ⟨blk, off + i, none⟩ = some (.slice xo x.length xc)) (by kernel_rfl) ?_ (fun hHeld => ?_); (focus ((try dsimp only); exact ⟨HS0.out.drew.rcell (j := 1) (List.mem_cons_of_mem _ (List.mem_cons_self ..)) rfl, HA.out _ _ _ HS0.out.drew⟩)))
      (refine wpAnyS_takeL (i := 0) (v := ?_) rfl (by kernel_rfl) (by kernel_rfl) (by kernel_rfl) (by kernel_rfl) (by kernel_rfl) (by kernel_rfl) (fun _ _ _ h => h) (Or.inl ⟨by rfl, ?_⟩) hHeld ?_; rotate_left 1; (focus (intro w' hSw; (try dsimp only at hSw); go_simp; (try with_reducible rfl))); (try simp only [Act.put, List.setIfInBounds_toArray, List.set_cons_zero, List.set_cons_succ]))
      (refine wpAnyS_takeL (i := 1) (v := ?_) rfl (by kernel_rfl) (by kernel_rfl) (by kernel_rfl) (by kernel_rfl) (by kernel_rfl) (by kernel_rfl) (fun _ _ _ h => h) (Or.inl ⟨by rfl, ?_⟩) hHeld ?_; rotate_left 1; (focus (intro w' hSw; (try dsimp only at hSw); go_simp; (try with_reducible rfl))); (try simp only [Act.put, List.setIfInBounds_toArray, List.set_cons_zero, List.set_cons_succ]))
      (refine wpAnyS_takeL (i := 2) (v := ?_) rfl (by kernel_rfl) (by kernel_rfl) (by kernel_rfl) (by kernel_rfl) (by kernel_rfl) (by kernel_rfl) (fun _ _ _ h => h) (Or.inl ⟨by rfl, ?_⟩) hHeld ?_; rotate_left 1; (focus (intro w' hSw; (try dsimp only at hSw); go_simp; (try with_reducible rfl))); (try simp only [Act.put, List.setIfInBounds_toArray, List.set_cons_zero, List.set_cons_succ]))
      (refine wpAnyS_takeL (i := 3) (v := ?_) rfl (by kernel_rfl) (by kernel_rfl) (by kernel_rfl) (by kernel_rfl) (by kernel_rfl) (by kernel_rfl) (fun _ _ _ h => h) (Or.inl ⟨by rfl, ?_⟩) hHeld ?_; rotate_left 1; (focus (intro w' hSw; (try dsimp only at hSw); go_simp; (try with_reducible rfl))); (try simp only [Act.put, List.setIfInBounds_toArray, List.set_cons_zero, List.set_cons_succ]))
      (refine wpAnyS_takeL (i := 4) (v := ?_) rfl (by kernel_rfl) (by kernel_rfl) (by kernel_rfl) (by kernel_rfl) (by kernel_rfl) (by kernel_rfl) (fun _ _ _ h => h) (Or.inl ⟨by rfl, ?_⟩) hHeld ?_; rotate_left 1; (focus (intro w' hSw; (try dsimp only at hSw); go_simp; (try with_reducible rfl))); (try simp only [Act.put, List.setIfInBounds_toArray, List.set_cons_zero, List.set_cons_succ]))
      (refine wpAnyS_takeL (i := 5) (v := ?_) rfl (by kernel_rfl) (by kernel_rfl) (by kernel_rfl) (by kernel_rfl) (by kernel_rfl) (by kernel_rfl) (fun _ _ _ h => h) (Or.inl ⟨by rfl, ?_⟩) hHeld ?_; rotate_left 1; (focus (intro w' hSw; (try dsimp only at hSw); go_simp; (try with_reducible rfl))); (try simp only [Act.put, List.setIfInBounds_toArray, List.set_cons_zero, List.set_cons_succ]))
      (refine wpAnyS_ready (rs := [6]) (by kernel_rfl) (by simp) ?_; refine AllS.consL rfl (fun K hK => ?_) AllS.nil)
      (go_simp; go_at_call 22; refine (copyBytes_any _ x _ (HS0.out.drew.old HX.out) (by omega)).mono ?_; rintro e w' ⟨vc, rfl, hkc⟩; go_wp2_with fail)
      obtain ⟨co, cc, rfl, _⟩ := id hkc.sl0
      have hs1 := (HS0.out.drew.call1 hkc).freeze
      dsimp only at hs1
      (refine hK.out _ _ ?_ (fun hHeld => ?_); (focus ((try dsimp only); exact ⟨hs1.rcell (j := 1) (List.mem_cons_of_mem _ (List.mem_cons_self ..)) rfl, HA.out _ _ _ hs1⟩)); clear hK K; (try simp only [Act.put, List.setIfInBounds_toArray, List.set_cons_zero, List.set_cons_succ]))
      (refine wpAnyS_ready (rs := [7]) (by kernel_rfl) (by simp) ?_; refine AllS.consL rfl (fun K hK => ?_) AllS.nil)
      go_simp
      (refine hK.out _ _ ?_ (fun hHeld => ?_); (focus ((try dsimp only); exact ⟨(hs1.alloc _).rcell (j := 1) (List.mem_cons_of_mem _ (List.mem_cons_self ..)) rfl, HA.out _ _ _ (hs1.alloc _)⟩)); clear hK K; (try simp only [Act.put, List.setIfInBounds_toArray, List.set_cons_zero, List.set_cons_succ]))
      (refine wpAnyS_ready (rs := [8]) (by kernel_rfl) (by simp) ?_; refine AllS.consL rfl (fun K hK => ?_) AllS.nil)
      refine step_app rfl _ _ 22 rfl Tryz.elBs (by exact hs1.alloc _) rfl (by exact Sl.one _ _ _) (by intro u hu; simp at hu; subst hu; rfl) (by omega) ?_
      intro v8 w8 hs8 _
      obtain ⟨po, pc, rfl, _⟩ := id hs8.sl0
      (refine hK.out _ _ ?_ (fun hHeld => ?_); (focus ((try dsimp only); exact ⟨hs8.rcell (j := 1) (List.mem_cons_of_mem _ (List.mem_cons_self ..)) rfl, HA.out _ _ _ hs8⟩)); clear hK K; (try simp only [Act.put, List.setIfInBounds_toArray, List.set_cons_zero, List.set_cons_succ]))
      (refine wpAnyS_seq (by rfl) (by kernel_rfl) ?_; simp only [List.drop_succ_cons, List.drop_zero])
      clear hs1 hkc
      have hend : ∀ (wX : World) (qo : Option Addr) (qc : Nat), St w wX [told1 g (.slice qo (i + 1) qc) (.slice po (i + 1) pc), ⟨.slice qo (i + 1) qc, 9, 1, i + 1, ss ((idsT l lie).take i) ++ [.string (idB y)]⟩, ⟨.slice po (i + 1) pc, 51, 1, i + 1, vs ++ [.slice co x.length cc]⟩, told1 gz (.slice none 0 0) (.slice none 0 0)] (⟨.slice co x.length cc, 1, x.length, bs x⟩ :: rds vs (l.take i)) →
          St w wX [⟨.slice po (i + 1) pc, 51, 1, i + 1, vs ++ [.slice co x.length cc]⟩, told1 g (.slice qo (i + 1) qc) (.slice po (i + 1) pc), told1 gz (.slice none 0 0) (.slice none 0 0), ⟨.slice qo (i + 1) qc, 9, 1, i + 1, ss ((idsT l lie).take (i + 1))⟩] (rds (vs ++ [.slice co x.length cc]) (l.take (i + 1))) := by
        intro wX qo qc h
        rw [HTK.out, HTI.out, ss_app, rds_snoc _ _ _ _ HVS.out]
        exact (h.perm (perm_told _ _ _ _)).sub (List.Sublist.refl _) (fun q hq => by
          rcases List.mem_append.1 hq with h | h
          · exact List.mem_cons_of_mem _ h
          · rw [List.mem_singleton.1 h]; exact List.mem_cons_self ..)
      have HEND := Mx.hid hend
      have HLEN := Mx.hid (show (vs ++ [Value.slice co x.length cc]).length = (l.take (i + 1)).length by rw [HTK.out, List.length_append, List.length_append, HVS.out]; rfl)
      clear hend
      cases lie with
      | false =>
        obtain rfl : i = K := by rw [← hKe]; rfl
        clear hKK hKe
        go_wp2_with ((with_reducible show wpList _ _ _ _ _ _); refine wpl_store1 rfl 22 _ _ rfl hs8.swap (1) rfl (.slice po (i + 1) pc) rfl rfl (by kernel_rfl) (by simp) rfl ?_; intro w9 hs9)
        have hsA : St w w9 [told1 g (.slice io i ic) (.slice po (i + 1) pc), ⟨.slice po (i + 1) pc, 51, 1, i + 1, vs ++ [.slice co x.length cc]⟩, told1 gz (.slice none 0 0) (.slice none 0 0), ⟨.slice io i ic, 9, 1, i, ss ((idsT l _).take i)⟩] (⟨.slice co x.length cc, 1, x.length, bs x⟩ :: rds vs (l.take i)) := hs9
        have HSA := Mx.hid hsA
        clear hsA hs9 hs8
        (refine wp_region_S (9) (fun W' => W'.cell? ⟨g, 0, none⟩ = some (.slice io i ic) ∧ W'.cell? ⟨blk, off + i, none⟩ = some (.slice yo y.length yc)) (by kernel_rfl) ?_ (fun hHeld => ?_); (focus ((try dsimp only); exact ⟨HSA.out.drew.rcell (List.mem_cons_self ..) rfl, HB.out _ _ _ HSA.out.drew⟩)))
        (refine wpAnyS_takeL (i := 0) (v := ?_) rfl (by kernel_rfl) (by kernel_rfl) (by kernel_rfl) (by kernel_rfl) (by kernel_rfl) (by kernel_rfl) (fun _ _ _ h => h) (Or.inl ⟨by rfl, ?_⟩) hHeld ?_; rotate_left 1; (focus (intro w' hSw; (try dsimp only at hSw); go_simp; (try with_reducible rfl))); (try simp only [Act.put, List.setIfInBounds_toArray, List.set_cons_zero, List.set_cons_succ]))
        (refine wpAnyS_takeL (i := 1) (v := ?_) rfl (by kernel_rfl) (by kernel_rfl) (by kernel_rfl) (by kernel_rfl) (by kernel_rfl) (by kernel_rfl) (fun _ _ _ h => h) (Or.inl ⟨by rfl, ?_⟩) hHeld ?_; rotate_left 1; (focus (intro w' hSw; (try dsimp only at hSw); go_simp; (try with_reducible rfl))); (try simp only [Act.put, List.setIfInBounds_toArray, List.set_cons_zero, List.set_cons_succ]))
        (refine wpAnyS_takeL (i := 2) (v := ?_) rfl (by kernel_rfl) (by kernel_rfl) (by kernel_rfl) (by kernel_rfl) (by kernel_rfl) (by kernel_rfl) (fun _ _ _ h => h) (Or.inl ⟨by rfl, ?_⟩) hHeld ?_; rotate_left 1; (focus (intro w' hSw; (try dsimp only at hSw); go_simp; (try with_reducible rfl))); (try simp only [Act.put, List.setIfInBounds_toArray, List.set_cons_zero, List.set_cons_succ]))
        (refine wpAnyS_takeL (i := 3) (v := ?_) rfl (by kernel_rfl) (by kernel_rfl) (by kernel_rfl) (by kernel_rfl) (by kernel_rfl) (by kernel_rfl) (fun _ _ _ h => h) (Or.inl ⟨by rfl, ?_⟩) hHeld ?_; rotate_left 1; (focus (intro w' hSw; (try dsimp only at hSw); go_simp; (try with_reducible rfl))); (try simp only [Act.put, List.setIfInBounds_toArray, List.set_cons_zero, List.set_cons_succ]))
        (refine wpAnyS_takeL (i := 4) (v := ?_) rfl (by kernel_rfl) (by kernel_rfl) (by kernel_rfl) (by kernel_rfl) (by kernel_rfl) (by kernel_rfl) (fun _ _ _ h => h) (Or.inl ⟨by rfl, ?_⟩) hHeld ?_; rotate_left 1; (focus (intro w' hSw; (try dsimp only at hSw); go_simp; (try with_reducible rfl))); (try simp only [Act.put, List.setIfInBounds_toArray, List.set_cons_zero, List.set_cons_succ]))
        (refine wpAnyS_takeL (i := 5) (v := ?_) rfl (by kernel_rfl) (by kernel_rfl) (by kernel_rfl) (by kernel_rfl) (by kernel_rfl) (by kernel_rfl) (fun _ _ _ h => h) (Or.inl ⟨by rfl, ?_⟩) hHeld ?_; rotate_left 1; (focus (intro w' hSw; (try dsimp only at hSw); go_simp; (try with_reducible rfl))); (try simp only [Act.put, List.setIfInBounds_toArray, List.set_cons_zero, List.set_cons_succ]))
        (refine wpAnyS_ready (rs := [6]) (by kernel_rfl) (by simp) ?_; refine AllS.consL rfl (fun K hK => ?_) AllS.nil)
        (go_simp; go_at_call 19; refine (rid_any _ y _ (HSA.out.drew.old HY.out) (by omega)).mono ?_; rintro e w' ⟨rfl, hk⟩; go_wp2_with fail)
        have hsB := HSA.out.drew.call0 hk
        (refine hK.out _ _ ?_ (fun hHeld => ?_); (focus ((try dsimp only); exact ⟨hsB.rcell (List.mem_cons_self ..) rfl, HB.out _ _ _ hsB⟩)); clear hK K; (try simp only [Act.put, List.setIfInBounds_toArray, List.set_cons_zero, List.set_cons_succ]))
        (refine wpAnyS_ready (rs := [7]) (by kernel_rfl) (by simp) ?_; refine AllS.consL rfl (fun K hK => ?_) AllS.nil)
        go_simp
        (refine hK.out _ _ ?_ (fun hHeld => ?_); (focus ((try dsimp only); exact ⟨(hsB.alloc _).rcell (List.mem_cons_self ..) rfl, HB.out _ _ _ (hsB.alloc _)⟩)); clear hK K; (try simp only [Act.put, List.setIfInBounds_toArray, List.set_cons_zero, List.set_cons_succ]))
        (refine wpAnyS_ready (rs := [8]) (by kernel_rfl) (by simp) ?_; refine AllS.consL rfl (fun K hK => ?_) AllS.nil)
        have hsC := hsB.perm (List.perm_append_comm (l₁ := [_, _, _]) (l₂ := [_]))
        refine step_app rfl _ _ 23 rfl Tryz.elStr (by exact hsC.alloc _) rfl (by exact Sl.one _ _ _) (by intro u hu; simp at hu; subst hu; rfl) (by omega) ?_
        intro vB wB hsD _
        obtain ⟨qo, qc, rfl, _⟩ := id hsD.sl0
        (refine hK.out _ _ ?_ (fun hHeld => ?_); (focus ((try dsimp only); exact ⟨hsD.rcell (j := 0) (List.mem_cons_of_mem _ (List.mem_cons_self ..)) rfl, HB.out _ _ _ hsD⟩)); clear hK K; (try simp only [Act.put, List.setIfInBounds_toArray, List.set_cons_zero, List.set_cons_succ]))
        (refine wpAnyS_seq (by rfl) (by kernel_rfl) ?_; simp only [List.drop_succ_cons, List.drop_zero])
        go_wp2_with ((with_reducible show wpList _ _ _ _ _ _); refine wpl_store1 rfl 23 _ _ rfl hsD.swap (0) rfl (.slice qo (i + 1) qc) rfl rfl (by kernel_rfl) (by simp) rfl ?_; intro wE hsE)
        exact ⟨⟨i + 1, .slice qo (i + 1) qc, .slice po (i + 1) pc, _, by go_num, by omega, Mx.hid HLEN.out, HEND.out _ _ _ hsE⟩, by simp [intOf]; omega⟩
      | true =>
        have hl0 : ¬ (l.length : Int) = 0 := by omega
        have hw1 : IntKind.i64.wrap ((i : Int) + 1) = (i : Int) + 1 := IntWalk.i64_in _ (by omega)
        have h9 : (0 : Int) ≤ ((i : Int) + 1) % (l.length : Int) := Int.emod_nonneg _ hl0
        have h10 : ((i : Int) + 1) % (l.length : Int) < (l.length : Int) := Int.emod_lt_of_pos _ (by omega)
        have hrem : ((i : Int) + 1) % (l.length : Int) = (K : Int) := by rw [hKK, if_pos rfl]; push_cast; rfl
        clear hKK hKe
        go_wp2_with ((with_reducible show wpList _ _ _ _ _ _); refine wpl_store1 rfl 22 _ _ rfl hs8.swap (1) rfl (.slice po (i + 1) pc) rfl rfl (by kernel_rfl) (by simp) rfl ?_; intro w9 hs9)
        have hsA : St w w9 [told1 g (.slice io i ic) (.slice po (i + 1) pc), ⟨.slice po (i + 1) pc, 51, 1, i + 1, vs ++ [.slice co x.length cc]⟩, told1 gz (.slice none 0 0) (.slice none 0 0), ⟨.slice io i ic, 9, 1, i, ss ((idsT l _).take i)⟩] (⟨.slice co x.length cc, 1, x.length, bs x⟩ :: rds vs (l.take i)) := hs9
        have HSA := Mx.hid hsA
        clear hsA hs9 hs8
        (refine wp_region_S (9) (fun W' => W'.cell? ⟨g, 0, none⟩ = some (.slice io i ic) ∧ W'.cell? ⟨blk, off + K, none⟩ = some (.slice yo y.length yc)) (by kernel_rfl) ?_ (fun hHeld => ?_); (focus ((try dsimp only); exact ⟨HSA.out.drew.rcell (List.mem_cons_self ..) rfl, HB.out _ _ _ HSA.out.drew⟩)))
        (refine wpAnyS_takeL (i := 0) (v := ?_) rfl (by kernel_rfl) (by kernel_rfl) (by kernel_rfl) (by kernel_rfl) (by kernel_rfl) (by kernel_rfl) (fun _ _ _ h => h) (Or.inl ⟨by rfl, ?_⟩) hHeld ?_; rotate_left 1; (focus (intro w' hSw; (try dsimp only at hSw); go_simp; (try with_reducible rfl))); (try simp only [Act.put, List.setIfInBounds_toArray, List.set_cons_zero, List.set_cons_succ]))
        (refine wpAnyS_takeL (i := 1) (v := ?_) rfl (by kernel_rfl) (by kernel_rfl) (by kernel_rfl) (by kernel_rfl) (by kernel_rfl) (by kernel_rfl) (fun _ _ _ h => h) (Or.inl ⟨by rfl, ?_⟩) hHeld ?_; rotate_left 1; (focus (intro w' hSw; (try dsimp only at hSw); go_simp; (try with_reducible rfl))); (try simp only [Act.put, List.setIfInBounds_toArray, List.set_cons_zero, List.set_cons_succ]))
        (refine wpAnyS_takeL (i := 2) (v := ?_) rfl (by kernel_rfl) (by kernel_rfl) (by kernel_rfl) (by kernel_rfl) (by kernel_rfl) (by kernel_rfl) (fun _ _ _ h => h) (Or.inl ⟨by rfl, ?_⟩) hHeld ?_; rotate_left 1; (focus (intro w' hSw; (try dsimp only at hSw); go_simp; (try with_reducible rfl))); (try simp only [Act.put, List.setIfInBounds_toArray, List.set_cons_zero, List.set_cons_succ]))
        (refine wpAnyS_takeL (i := 3) (v := ?_) rfl (by kernel_rfl) (by kernel_rfl) (by kernel_rfl) (by kernel_rfl) (by kernel_rfl) (by kernel_rfl) (fun _ _ _ h => h) (Or.inl ⟨by rfl, ?_⟩) hHeld ?_; rotate_left 1; (focus (intro w' hSw; (try dsimp only at hSw); go_simp; (try with_reducible rfl))); (try simp only [Act.put, List.setIfInBounds_toArray, List.set_cons_zero, List.set_cons_succ]))
        (refine wpAnyS_takeL (i := 4) (v := ?_) rfl (by kernel_rfl) (by kernel_rfl) (by kernel_rfl) (by kernel_rfl) (by kernel_rfl) (by kernel_rfl) (fun _ _ _ h => h) (Or.inl ⟨by rfl, ?_⟩) hHeld ?_; rotate_left 1; (focus (intro w' hSw; (try dsimp only at hSw); go_simp; (try with_reducible rfl))); (try simp only [Act.put, List.setIfInBounds_toArray, List.set_cons_zero, List.set_cons_succ]))
        (refine wpAnyS_takeL (i := 5) (v := ?_) rfl (by kernel_rfl) (by kernel_rfl) (by kernel_rfl) (by kernel_rfl) (by kernel_rfl) (by kernel_rfl) (fun _ _ _ h => h) (Or.inl ⟨by rfl, ?_⟩) hHeld ?_; rotate_left 1; (focus (intro w' hSw; (try dsimp only at hSw); go_simp; (try with_reducible rfl))); (try simp only [Act.put, List.setIfInBounds_toArray, List.set_cons_zero, List.set_cons_succ]))
        (refine wpAnyS_ready (rs := [6]) (by kernel_rfl) (by simp) ?_; refine AllS.consL rfl (fun K hK => ?_) AllS.nil)
        (go_simp; go_at_call 19; refine (rid_any _ y _ (HSA.out.drew.old HY.out) (by omega)).mono ?_; rintro e w' ⟨rfl, hk⟩; go_wp2_with fail)
        have hsB := HSA.out.drew.call0 hk
        (refine hK.out _ _ ?_ (fun hHeld => ?_); (focus ((try dsimp only); exact ⟨hsB.rcell (List.mem_cons_self ..) rfl, HB.out _ _ _ hsB⟩)); clear hK K; (try simp only [Act.put, List.setIfInBounds_toArray, List.set_cons_zero, List.set_cons_succ]))
        (refine wpAnyS_ready (rs := [7]) (by kernel_rfl) (by simp) ?_; refine AllS.consL rfl (fun K hK => ?_) AllS.nil)
        go_simp
        (refine hK.out _ _ ?_ (fun hHeld => ?_); (focus ((try dsimp only); exact ⟨(hsB.alloc _).rcell (List.mem_cons_self ..) rfl, HB.out _ _ _ (hsB.alloc _)⟩)); clear hK K; (try simp only [Act.put, List.setIfInBounds_toArray, List.set_cons_zero, List.set_cons_succ]))
        (refine wpAnyS_ready (rs := [8]) (by kernel_rfl) (by simp) ?_; refine AllS.consL rfl (fun K hK => ?_) AllS.nil)
        have hsC := hsB.perm (List.perm_append_comm (l₁ := [_, _, _]) (l₂ := [_]))
        refine step_app rfl _ _ 23 rfl Tryz.elStr (by exact hsC.alloc _) rfl (by exact Sl.one _ _ _) (by intro u hu; simp at hu; subst hu; rfl) (by omega) ?_
        intro vB wB hsD _
        obtain ⟨qo, qc, rfl, _⟩ := id hsD.sl0
        (refine hK.out _ _ ?_ (fun hHeld => ?_); (focus ((try dsimp only); exact ⟨hsD.rcell (j := 0) (List.mem_cons_of_mem _ (List.mem_cons_self ..)) rfl, HB.out _ _ _ hsD⟩)); clear hK K; (try simp only [Act.put, List.setIfInBounds_toArray, List.set_cons_zero, List.set_cons_succ]))
        (refine wpAnyS_seq (by rfl) (by kernel_rfl) ?_; simp only [List.drop_succ_cons, List.drop_zero])
        go_wp2_with ((with_reducible show wpList _ _ _ _ _ _); refine wpl_store1 rfl 23 _ _ rfl hsD.swap (0) rfl (.slice qo (i + 1) qc) rfl rfl (by kernel_rfl) (by simp) rfl ?_; intro wE hsE)
        exact ⟨⟨i + 1, .slice qo (i + 1) qc, .slice po (i + 1) pc, _, by go_num, by omega, Mx.hid HLEN.out, HEND.out _ _ _ hsE⟩, by simp [intOf]; omega⟩
    · obtain rfl : i = l.length := by omega
      have hid2 : (idsT l lie).take l.length = idsT l lie := by rw [← idsT_len l lie, List.take_length]
      rw [hid2, List.take_length] at hs
      rw [List.take_length] at HVS
      have hcs := hs
      go_wp2_with (first | ((with_reducible show wpList _ _ _ _ _ _); refine wpl_loadA rfl 31 _ rfl Tryz.aSrc (g) (0) rfl ([.slice io l.length ic, .slice oo l.length oc, .pointer none]) rfl (fun j u h => by rw [Nat.zero_add]; exact hcs.rcell (List.mem_cons_of_mem _ (List.mem_cons_self ..)) h) ?_) | ((with_reducible show wpList _ _ _ _ _ _); refine wpl_storeA rfl 31 _ _ rfl Tryz.aSrc (hcs.perm (perm_told2 _ _ _ _)) (0) rfl ([.slice io l.length ic, .slice oo l.length oc, .pointer none]) rfl (by rfl) (by simp) (by intro u hu; simp at hu; rcases hu with rfl | rfl | rfl <;> rfl) ?_; intro w9 hs9))
      have hsA : St w w9 [told1 gz (.slice io l.length ic) (.slice oo l.length oc), told1 g (.slice io l.length ic) (.slice oo l.length oc), ⟨.slice oo l.length oc, 51, 1, l.length, vs⟩, ⟨.slice io l.length ic, 9, 1, l.length, ss (idsT l lie)⟩] (rds vs l) := hs9.cast rfl (by simp)
      have hcw : ∀ i u, ([.slice io l.length ic, .slice oo l.length oc, .pointer none] : List Value)[i]? = some u → w9.cell? ⟨gz, i, none⟩ = some u := fun i u h => hsA.rcell (List.mem_cons_self ..) h
      refine bodyPost_ret (v := .agg ([.slice io l.length ic, .slice oo l.length oc, .pointer none] : List Value).toArray) (results_cellA Tryz.results8 _ Tryz.aSrc (g := gz) [.slice io l.length ic, .slice oo l.length oc, .pointer none] ?_ rfl hcw) ?_ ?_
      · first | (simp; done) | simp [Act.put]
      · first | (simp; done) | simp [Act.put]
      · exact ⟨.slice io l.length ic, .slice oo l.length oc, rfl, hsA.bare, hsA.sl (r := ⟨.slice io l.length ic, 9, 1, l.length, ss (idsT l lie)⟩) (by simp), ⟨vs, HVS.out, hsA.sl2, fun q hq => hsA.rd q hq⟩⟩
end Go.Proofs.YtloogjdafhjheaaGreat
