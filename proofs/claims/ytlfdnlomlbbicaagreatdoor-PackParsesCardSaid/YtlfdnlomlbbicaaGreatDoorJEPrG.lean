/- Walks of marref9.Source.Get, of marlaw10.Told. The walk of marref9.one: an object of a pack, by definition. The walk of marref9.one: by one elsewhere; whole. The walk of marref9.parse, Parse, Index. -/
import Derived.Test.YtlfdnlomlbbicaaGreatDoorJDRID
import Derived.Test.YtlfdnlomlbbicaaGreatDoorJAPkK
import Derived.Test.YtlfdnlomlbbicaaGreatDoorJBPkO
import Derived.Test.YtlfdnlomlbbicaaGreatDoorR6D
import Derived.Test.YtlfdnlomlbbicaaGreatDoorJ11DelU
namespace Go.Mx
open Go Go.RowKit
/-- The names that a told source has. -/
def idsT (l : List (List UInt8)) (lie : Bool) : List ByteArray := (List.range l.length).map fun i => idB (l.getD (kB l lie i) [])
theorem idsT_len (l : List (List UInt8)) (lie : Bool) : (idsT l lie).length = l.length := by simp [idsT]
theorem idsT_get {l : List (List UInt8)} {lie : Bool} {k : Nat} (hk : k < l.length) : (idsT l lie)[k]'(by rw [idsT_len]; exact hk) = idB (l.getD (kB l lie k) []) := by simp [idsT]
theorem idsT_take {l : List (List UInt8)} {lie : Bool} {k : Nat} (hk : k < l.length) : (idsT l lie).take (k + 1) = (idsT l lie).take k ++ [idB (l.getD (kB l lie k) [])] := by
  rw [List.take_succ_eq_append_getElem (by rw [idsT_len]; exact hk), idsT_get hk]
theorem perm_told {α : Type} (a b c d : α) : [a, b, c, d].Perm [c, a, d, b] :=
  ((List.Perm.cons a (List.Perm.swap c b [d])).trans (List.Perm.swap c a [b, d])).trans (List.Perm.cons c (List.Perm.cons a (List.Perm.swap d b [])))
theorem perm_told2 {α : Type} (a b c d : α) : [a, b, c, d].Perm [c, b, a, d] :=
  (List.Perm.swap b a [c, d]).trans (((List.Perm.cons b (List.Perm.swap c a [d])).trans (List.Perm.swap c b [a, d])))
end Go.Mx
namespace Go.Proofs.YtlfdnlomlbbicaaGreatDoor
open Go.RowKit Go.Mx
/-- The value of a told source. -/
abbrev stv (vi vo : Value) : Value := .agg #[vi, vo, .pointer none]
set_option maxRecDepth 100000 in
set_option maxHeartbeats 2000000 in
theorem sget_any (vi vo : Value) (l : List (List UInt8)) (lie : Bool) (id : ByteArray) (w : World) (hi : Sl w 1 vi l.length (ss (idsT l lie))) (ho : LL w vo l) (hz : ∀ x ∈ l, x.length ≤ 140737488351232) :
    Calls Tryz.prog 70 #[stv vi vo, .string id] w (SourceAns (srcF l lie id) w) := by
  obtain ⟨ao, cap, blk, off, us, rfl, h1, h2, hc, hs⟩ := ho.at
  rw [← idsT_len l lie] at hi
  obtain ⟨bo, bcap, blk', off', rfl, i1, i2, hll, hic⟩ := hi.txt
  rw [idsT_len] at i1 ⊢
  have HC := Mx.hid (fun k hk => (⟨(hc k hk).1, (hc k hk).2⟩ : ao = some ⟨blk, off, none⟩ ∧ w.cell? ⟨blk, off + k, none⟩ = some (us k)))
  have HS := Mx.hid hs
  have HZ := Mx.hid (fun (k : Nat) (hk : k < l.length) => hz l[k] (List.getElem_mem hk))
  have HI := Mx.hid (fun (k : Nat) (hk : k < l.length) => (show bo = some ⟨blk', off', none⟩ ∧ w.cell? ⟨blk', off' + k, none⟩ = some (.string (idB (l.getD (kB l lie k) []))) from by
    have := hic k (by rw [idsT_len]; exact hk)
    rw [idsT_get hk] at this
    exact this))
  have HST : Hid (srcF l lie id = srcI l lie id 0) := Mx.hid (by unfold srcF; rfl)
  generalize srcF l lie id = so at *
  clear hi ho hc hs hz hic hll
  go_enter Tryz.func70, Tryz.ntmps70
  go_wp2_with (((with_reducible show wpList _ _ _ _ _ _); refine wpl_box rfl 40 _ rfl (St.refl w) ([.slice bo l.length bcap, .slice ao l.length cap, .pointer none]) (by rfl) ?_; intro gx wx hsx))
  go_loopw [6] (fun y wr => ∃ i : Nat, y = .int .i64 i ∧ i ≤ l.length ∧ Hid (so = srcI l lie id i) ∧ St w wr [⟨.slice (some ⟨gx, 0, none⟩) 1 1, 40, 3, 1, [.slice bo l.length bcap, .slice ao l.length cap, .pointer none]⟩] []) (fun y _ => l.length - (intOf y).toNat)
  case atStart => exact ⟨0, rfl, by omega, HST, hsx⟩
  case round =>
    clear HST hsx
    obtain ⟨i, rfl, hi, HSI, hq⟩ := hrel
    have c0 : wr.cell? ⟨gx, 0, none⟩ = some (.slice bo l.length bcap) := hq.rcell (List.mem_cons_self ..) rfl
    have c1 : wr.cell? ⟨gx, 1, none⟩ = some (.slice ao l.length cap) := hq.rcell (List.mem_cons_self ..) rfl
    have c2 : wr.cell? ⟨gx, 2, none⟩ = some (.pointer none) := hq.rcell (List.mem_cons_self ..) rfl
    by_cases hlt : i < l.length
    · obtain ⟨rfl, a0⟩ := HC.out i hlt
      obtain ⟨rfl, b0⟩ := HI.out i hlt
      have hx := HS.out i hlt
      obtain ⟨xo, xc, hu, _⟩ := Sl.form hx
      replace a0 := hq.keep a0
      replace b0 := hq.keep b0
      rw [hu] at a0 hx
      have HXX := Mx.hid (copyBytes_any _ l[i] wr (hq.old hx) (by have := HZ.out i hlt; omega))
      have HSR := Mx.hid (show so = if idB (l.getD (kB l lie i) []) = id then some (l.getD i []) else srcI l lie id (i + 1) by rw [HSI.out, srcI, if_pos hlt])
      have HGD := Mx.hid (show l.getD i [] = l[i] by rw [List.getD_eq_getElem?_getD, List.getElem?_eq_getElem hlt]; rfl)
      have hii : (i : Int) < (l.length : Int) := by omega
      clear hx hu HSI
      generalize idB (l.getD (kB l lie i) []) = idk at *
      by_cases he : idk = id
      · have hb : (idk.toList == id.toList) = true := tx_beq he
        have HF := Mx.hid (show so = some l[i] by rw [HSR.out, if_pos he, HGD.out])
        clear he
        go_wp2_with fail
        refine HXX.out.mono ?_
        rintro e w1 ⟨v, rfl, hk1⟩
        go_wp2_with fail
        go_ret2
        rw [HF.out]
        exact ⟨_, rfl, hq.bare.call hk1⟩
      · have hb : (idk.toList == id.toList) = false := tx_bne he
        have HF := Mx.hid (show so = srcI l lie id (i + 1) by rw [HSR.out, if_neg he])
        clear he
        go_wp2_with fail
        exact ⟨⟨i + 1, by go_num, by omega, HF, hq⟩, by simp [intOf]; omega⟩
    · obtain rfl : i = l.length := by omega
      have HF := Mx.hid (show so = none by rw [HSI.out, srcI, if_neg (by omega)])
      go_wp2_with fail
      go_ret2
      rw [HF.out]
      exact ⟨rfl, hq.bare⟩

theorem Tryz.aSrc : Ag Tryz.prog 40 3 := ⟨⟨_, Tryz.underlying40, rfl⟩, by kernel_rfl⟩
def ToldPost (l : List (List UInt8)) (lie : Bool) (w : World) (e : Ending) (w' : World) : Prop :=
  ∃ vi vo, e = .returned (stv vi vo) ∧ St w w' [] [] ∧ Sl w' 1 vi l.length (ss (idsT l lie)) ∧ LL w' vo l
abbrev srow (g : Nat) (vi vo : Value) : Row := ⟨.slice (some ⟨g, 0, none⟩) 1 1, 40, 3, 1, [vi, vo, .pointer none]⟩
set_option maxRecDepth 200000 in
set_option maxHeartbeats 4000000 in
theorem told_any (v : Value) (l : List (List UInt8)) (lie : Bool) (w : World) (hv : LL w v l) (hz : ∀ x ∈ l, x.length ≤ 140737488351232) (hl : l.length ≤ 1000) :
    Calls Tryz.prog 15 #[v, .bool lie] w (ToldPost l lie w) := by
  obtain ⟨ao, cap, blk, off, us, rfl, h1, h2, hc, hs⟩ := hv.at
  have HC := Mx.hid (fun k hk => (⟨(hc k hk).1, (hc k hk).2⟩ : ao = some ⟨blk, off, none⟩ ∧ w.cell? ⟨blk, off + k, none⟩ = some (us k)))
  have HS := Mx.hid hs
  have HZ := Mx.hid (fun (k : Nat) (hk : k < l.length) => hz l[k] (List.getElem_mem hk))
  clear hv hc hs hz
  go_enter Tryz.func15, Tryz.ntmps15
  go_upto_region 1 with fail
  have hz := (St.refl w).madeAt #[.slice none 0 0, .slice none 0 0, .pointer none] 40 3 1 w.heap.size rfl (by simp [maxLen]) rfl
  change Code.wp _ _ _ _ (w.alloc (.cells #[.slice none 0 0, .slice none 0 0, .pointer none] 40))
  generalize w.alloc (.cells #[.slice none 0 0, .slice none 0 0, .pointer none] 40) = wz at hz ⊢
  generalize w.heap.size = gz at hz ⊢
  go_wp2_with (((with_reducible show wpList _ _ _ _ _ _); refine wpl_storeA rfl 40 _ _ rfl Tryz.aSrc (hz.madeAt #[.slice none 0 0, .slice none 0 0, .pointer none] 40 3 1 _ rfl (by simp [maxLen]) rfl) (0) rfl ([.slice none 0 0, .slice none 0 0, .pointer none]) rfl (by rfl) (by simp) (by intro u hu; simp at hu; rcases hu with rfl | rfl <;> rfl) ?_; intro w4 hs4))
  have hs5 : St w w4 [srow wz.heap.size (.slice none 0 0) (.slice none 0 0), srow gz (.slice none 0 0) (.slice none 0 0)] [] := hs4.cast rfl (by simp)
  have HS6 : Hid (St w w4 [⟨.slice none 0 0, 25, 1, 0, []⟩, srow wz.heap.size (.slice none 0 0) (.slice none 0 0), srow gz (.slice none 0 0) (.slice none 0 0), ⟨.slice none 0 0, 9, 1, 0, []⟩] []) := Mx.hid (((hs5.addNil 9 1).perm (List.perm_append_comm (l₁ := [_]) (l₂ := [_, _]))).addNil 25 1)
  clear hs5 hs4 hz
  generalize wz.heap.size = g at *
  go_loopw [6] (fun y wr => ∃ (i : Nat) (vi vo : Value) (vs : List Value), y = .int .i64 i ∧ i ≤ l.length ∧ Hid (vs.length = (l.take i).length) ∧ St w wr [⟨vo, 25, 1, i, vs⟩, srow g vi vo, srow gz (.slice none 0 0) (.slice none 0 0), ⟨vi, 9, 1, i, ss ((idsT l lie).take i)⟩] (rds vs (l.take i))) (fun y _ => l.length - (intOf y).toNat)
  case atStart => exact ⟨0, _, _, [], rfl, by omega, rfl, by rw [List.take_zero, List.take_zero]; exact HS6.out⟩
  case round =>
    clear HS6
    obtain ⟨i, vi, vo, vs, rfl, hi, HVS, hs⟩ := hrel
    have hvi : Sl wr 1 vi i (ss ((idsT l lie).take i)) := hs.sl (r := ⟨vi, 9, 1, i, ss ((idsT l lie).take i)⟩) (by simp)
    obtain ⟨io, ic, rfl, _⟩ := id hvi
    obtain ⟨oo, oc, rfl, _⟩ := id hs.sl0
    clear hvi
    by_cases hlt : i < l.length
    · obtain ⟨rfl, a0⟩ := HC.out i hlt
      have hx := HS.out i hlt
      have hxz := HZ.out i hlt
      obtain ⟨xo, xc, hu, _⟩ := Sl.form hx
      have hK := kB_lt (lie := lie) hlt
      obtain ⟨_, b0⟩ := HC.out _ hK
      have hy := HS.out _ hK
      have hyz := HZ.out _ hK
      obtain ⟨yo, yc, hu2, _⟩ := Sl.form hy
      rw [hu] at a0 hx
      rw [hu2] at b0 hy
      have HTK := Mx.hid (List.take_succ_eq_append_getElem hlt)
      have HTI := Mx.hid (idsT_take (lie := lie) hlt)
      have HGD := Mx.hid (show l.getD (kB l lie i) [] = l[kB l lie i] by rw [List.getD_eq_getElem?_getD, List.getElem?_eq_getElem hK]; rfl)
      rw [HGD.out] at HTI
      have HX := Mx.hid hx
      have HY := Mx.hid hy
      have HA := Mx.hid (fun (W : World) (R : List Row) (Q : List Rd) (h : St w W R Q) => h.keep a0)
      have HB := Mx.hid (fun (W : World) (R : List Row) (Q : List Rd) (h : St w W R Q) => h.keep b0)
      have hii : (i : Int) < (l.length : Int) := by omega
      have hKK : kB l lie i = if lie = true then (i + 1) % l.length else i := rfl
      have hKI : (kB l lie i : Int) < (l.length : Int) := by omega
      clear hx hu hy hu2 a0 b0 HGD
      generalize l[i] = x at *
      generalize l[kB l lie i] = y at *
      generalize hKe : kB l lie i = K at *
      have HS0 := Mx.hid hs
      clear hs
      go_wp2_with fail
      (refine wp_region_S (9) (fun W' => W'.cell? ⟨g, 1, none⟩ = some (.slice oo i oc) ∧ W'.cell? ⟨blk, off + i, none⟩ = some (.slice xo x.length xc)) (by kernel_rfl) ?_ (fun hHeld => ?_); (focus ((try dsimp only); exact ⟨HS0.out.drew.rcell (j := 1) (List.mem_cons_of_mem _ (List.mem_cons_self ..)) rfl, HA.out _ _ _ HS0.out.drew⟩)))
      (refine wpAnyS_takeL (i := 0) (v := ?_) rfl (by kernel_rfl) (by kernel_rfl) (by kernel_rfl) (by kernel_rfl) (by kernel_rfl) (by kernel_rfl) (fun _ _ _ h => h) (Or.inl ⟨by rfl, ?_⟩) hHeld ?_; rotate_left 1; (focus (intro w' hSw; (try dsimp only at hSw); go_simp; (try with_reducible rfl))); (try simp only [Act.put, List.setIfInBounds_toArray, List.set_cons_zero, List.set_cons_succ]))
      (refine wpAnyS_takeL (i := 1) (v := ?_) rfl (by kernel_rfl) (by kernel_rfl) (by kernel_rfl) (by kernel_rfl) (by kernel_rfl) (by kernel_rfl) (fun _ _ _ h => h) (Or.inl ⟨by rfl, ?_⟩) hHeld ?_; rotate_left 1; (focus (intro w' hSw; (try dsimp only at hSw); go_simp; (try with_reducible rfl))); (try simp only [Act.put, List.setIfInBounds_toArray, List.set_cons_zero, List.set_cons_succ]))
      (refine wpAnyS_takeL (i := 2) (v := ?_) rfl (by kernel_rfl) (by kernel_rfl) (by kernel_rfl) (by kernel_rfl) (by kernel_rfl) (by kernel_rfl) (fun _ _ _ h => h) (Or.inl ⟨by rfl, ?_⟩) hHeld ?_; rotate_left 1; (focus (intro w' hSw; (try dsimp only at hSw); go_simp; (try with_reducible rfl))); (try simp only [Act.put, List.setIfInBounds_toArray, List.set_cons_zero, List.set_cons_succ]))
      (refine wpAnyS_takeL (i := 3) (v := ?_) rfl (by kernel_rfl) (by kernel_rfl) (by kernel_rfl) (by kernel_rfl) (by kernel_rfl) (by kernel_rfl) (fun _ _ _ h => h) (Or.inl ⟨by rfl, ?_⟩) hHeld ?_; rotate_left 1; (focus (intro w' hSw; (try dsimp only at hSw); go_simp; (try with_reducible rfl))); (try simp only [Act.put, List.setIfInBounds_toArray, List.set_cons_zero, List.set_cons_succ]))
      (refine wpAnyS_takeL (i := 4) (v := ?_) rfl (by kernel_rfl) (by kernel_rfl) (by kernel_rfl) (by kernel_rfl) (by kernel_rfl) (by kernel_rfl) (fun _ _ _ h => h) (Or.inl ⟨by rfl, ?_⟩) hHeld ?_; rotate_left 1; (focus (intro w' hSw; (try dsimp only at hSw); go_simp; (try with_reducible rfl))); (try simp only [Act.put, List.setIfInBounds_toArray, List.set_cons_zero, List.set_cons_succ]))
      (refine wpAnyS_takeL (i := 5) (v := ?_) rfl (by kernel_rfl) (by kernel_rfl) (by kernel_rfl) (by kernel_rfl) (by kernel_rfl) (by kernel_rfl) (fun _ _ _ h => h) (Or.inl ⟨by rfl, ?_⟩) hHeld ?_; rotate_left 1; (focus (intro w' hSw; (try dsimp only at hSw); go_simp; (try with_reducible rfl))); (try simp only [Act.put, List.setIfInBounds_toArray, List.set_cons_zero, List.set_cons_succ]))
      (refine wpAnyS_ready (rs := [6]) (by kernel_rfl) (by simp) ?_; refine AllS.consL rfl (fun K hK => ?_) AllS.nil)
      (go_simp; go_at_call 7; refine (copyBytes_any _ x _ (HS0.out.drew.old HX.out) (by omega)).mono ?_; rintro e w' ⟨vc, rfl, hkc⟩; go_wp2_with fail)
      obtain ⟨co, cc, rfl, _⟩ := id hkc.sl0
      have hs1 := (HS0.out.drew.call1 hkc).freeze
      dsimp only at hs1
      (refine hK.out _ _ ?_ (fun hHeld => ?_); (focus ((try dsimp only); exact ⟨hs1.rcell (j := 1) (List.mem_cons_of_mem _ (List.mem_cons_self ..)) rfl, HA.out _ _ _ hs1⟩)); clear hK K; (try simp only [Act.put, List.setIfInBounds_toArray, List.set_cons_zero, List.set_cons_succ]))
      (refine wpAnyS_ready (rs := [7]) (by kernel_rfl) (by simp) ?_; refine AllS.consL rfl (fun K hK => ?_) AllS.nil)
      go_simp
      (refine hK.out _ _ ?_ (fun hHeld => ?_); (focus ((try dsimp only); exact ⟨(hs1.alloc _).rcell (j := 1) (List.mem_cons_of_mem _ (List.mem_cons_self ..)) rfl, HA.out _ _ _ (hs1.alloc _)⟩)); clear hK K; (try simp only [Act.put, List.setIfInBounds_toArray, List.set_cons_zero, List.set_cons_succ]))
      (refine wpAnyS_ready (rs := [8]) (by kernel_rfl) (by simp) ?_; refine AllS.consL rfl (fun K hK => ?_) AllS.nil)
      refine step_app rfl _ _ 22 rfl Tryz.elBs (by exact hs1.alloc _) rfl (by exact Sl.one _ _ _) (by intro u hu; simp at hu; subst hu; rfl) (by omega) ?_
      intro v8 w8 hs8 _
      obtain ⟨po, pc, rfl, _⟩ := id hs8.sl0
      (refine hK.out _ _ ?_ (fun hHeld => ?_); (focus ((try dsimp only); exact ⟨hs8.rcell (j := 1) (List.mem_cons_of_mem _ (List.mem_cons_self ..)) rfl, HA.out _ _ _ hs8⟩)); clear hK K; (try simp only [Act.put, List.setIfInBounds_toArray, List.set_cons_zero, List.set_cons_succ]))
      (refine wpAnyS_seq (by rfl) (by kernel_rfl) ?_; simp only [List.drop_succ_cons, List.drop_zero])
      clear hs1 hkc
      have hend : ∀ (wX : World) (qo : Option Addr) (qc : Nat), St w wX [srow g (.slice qo (i + 1) qc) (.slice po (i + 1) pc), ⟨.slice qo (i + 1) qc, 9, 1, i + 1, ss ((idsT l lie).take i) ++ [.string (idB y)]⟩, ⟨.slice po (i + 1) pc, 25, 1, i + 1, vs ++ [.slice co x.length cc]⟩, srow gz (.slice none 0 0) (.slice none 0 0)] (⟨.slice co x.length cc, 1, x.length, bs x⟩ :: rds vs (l.take i)) →
          St w wX [⟨.slice po (i + 1) pc, 25, 1, i + 1, vs ++ [.slice co x.length cc]⟩, srow g (.slice qo (i + 1) qc) (.slice po (i + 1) pc), srow gz (.slice none 0 0) (.slice none 0 0), ⟨.slice qo (i + 1) qc, 9, 1, i + 1, ss ((idsT l lie).take (i + 1))⟩] (rds (vs ++ [.slice co x.length cc]) (l.take (i + 1))) := by
        intro wX qo qc h
        rw [HTK.out, HTI.out, ss_app, rds_snoc _ _ _ _ HVS.out]
        exact (h.perm (perm_told _ _ _ _)).sub (List.Sublist.refl _) (fun q hq => by
          rcases List.mem_append.1 hq with h | h
          · exact List.mem_cons_of_mem _ h
          · rw [List.mem_singleton.1 h]; exact List.mem_cons_self ..)
      have HEND := Mx.hid hend
      have HLEN := Mx.hid (show (vs ++ [Value.slice co x.length cc]).length = (l.take (i + 1)).length by rw [HTK.out, List.length_append, List.length_append, HVS.out]; rfl)
      clear hend
      cases lie with
      | false =>
        obtain rfl : i = K := by rw [← hKe]; rfl
        clear hKK hKe
        go_wp2_with ((with_reducible show wpList _ _ _ _ _ _); refine wpl_store1 rfl 22 _ _ rfl hs8.swap (1) rfl (.slice po (i + 1) pc) rfl rfl (by kernel_rfl) (by simp) rfl ?_; intro w9 hs9)
        have hsA : St w w9 [srow g (.slice io i ic) (.slice po (i + 1) pc), ⟨.slice po (i + 1) pc, 25, 1, i + 1, vs ++ [.slice co x.length cc]⟩, srow gz (.slice none 0 0) (.slice none 0 0), ⟨.slice io i ic, 9, 1, i, ss ((idsT l _).take i)⟩] (⟨.slice co x.length cc, 1, x.length, bs x⟩ :: rds vs (l.take i)) := hs9
        have HSA := Mx.hid hsA
        clear hsA hs9 hs8
        (refine wp_region_S (9) (fun W' => W'.cell? ⟨g, 0, none⟩ = some (.slice io i ic) ∧ W'.cell? ⟨blk, off + i, none⟩ = some (.slice yo y.length yc)) (by kernel_rfl) ?_ (fun hHeld => ?_); (focus ((try dsimp only); exact ⟨HSA.out.drew.rcell (List.mem_cons_self ..) rfl, HB.out _ _ _ HSA.out.drew⟩)))
        (refine wpAnyS_takeL (i := 0) (v := ?_) rfl (by kernel_rfl) (by kernel_rfl) (by kernel_rfl) (by kernel_rfl) (by kernel_rfl) (by kernel_rfl) (fun _ _ _ h => h) (Or.inl ⟨by rfl, ?_⟩) hHeld ?_; rotate_left 1; (focus (intro w' hSw; (try dsimp only at hSw); go_simp; (try with_reducible rfl))); (try simp only [Act.put, List.setIfInBounds_toArray, List.set_cons_zero, List.set_cons_succ]))
        (refine wpAnyS_takeL (i := 1) (v := ?_) rfl (by kernel_rfl) (by kernel_rfl) (by kernel_rfl) (by kernel_rfl) (by kernel_rfl) (by kernel_rfl) (fun _ _ _ h => h) (Or.inl ⟨by rfl, ?_⟩) hHeld ?_; rotate_left 1; (focus (intro w' hSw; (try dsimp only at hSw); go_simp; (try with_reducible rfl))); (try simp only [Act.put, List.setIfInBounds_toArray, List.set_cons_zero, List.set_cons_succ]))
        (refine wpAnyS_takeL (i := 2) (v := ?_) rfl (by kernel_rfl) (by kernel_rfl) (by kernel_rfl) (by kernel_rfl) (by kernel_rfl) (by kernel_rfl) (fun _ _ _ h => h) (Or.inl ⟨by rfl, ?_⟩) hHeld ?_; rotate_left 1; (focus (intro w' hSw; (try dsimp only at hSw); go_simp; (try with_reducible rfl))); (try simp only [Act.put, List.setIfInBounds_toArray, List.set_cons_zero, List.set_cons_succ]))
        (refine wpAnyS_takeL (i := 3) (v := ?_) rfl (by kernel_rfl) (by kernel_rfl) (by kernel_rfl) (by kernel_rfl) (by kernel_rfl) (by kernel_rfl) (fun _ _ _ h => h) (Or.inl ⟨by rfl, ?_⟩) hHeld ?_; rotate_left 1; (focus (intro w' hSw; (try dsimp only at hSw); go_simp; (try with_reducible rfl))); (try simp only [Act.put, List.setIfInBounds_toArray, List.set_cons_zero, List.set_cons_succ]))
        (refine wpAnyS_takeL (i := 4) (v := ?_) rfl (by kernel_rfl) (by kernel_rfl) (by kernel_rfl) (by kernel_rfl) (by kernel_rfl) (by kernel_rfl) (fun _ _ _ h => h) (Or.inl ⟨by rfl, ?_⟩) hHeld ?_; rotate_left 1; (focus (intro w' hSw; (try dsimp only at hSw); go_simp; (try with_reducible rfl))); (try simp only [Act.put, List.setIfInBounds_toArray, List.set_cons_zero, List.set_cons_succ]))
        (refine wpAnyS_takeL (i := 5) (v := ?_) rfl (by kernel_rfl) (by kernel_rfl) (by kernel_rfl) (by kernel_rfl) (by kernel_rfl) (by kernel_rfl) (fun _ _ _ h => h) (Or.inl ⟨by rfl, ?_⟩) hHeld ?_; rotate_left 1; (focus (intro w' hSw; (try dsimp only at hSw); go_simp; (try with_reducible rfl))); (try simp only [Act.put, List.setIfInBounds_toArray, List.set_cons_zero, List.set_cons_succ]))
        (refine wpAnyS_ready (rs := [6]) (by kernel_rfl) (by simp) ?_; refine AllS.consL rfl (fun K hK => ?_) AllS.nil)
        (go_simp; go_at_call 28; refine (rid_any _ y _ (HSA.out.drew.old HY.out) (by omega)).mono ?_; rintro e w' ⟨rfl, hk⟩; go_wp2_with fail)
        have hsB := HSA.out.drew.call0 hk
        (refine hK.out _ _ ?_ (fun hHeld => ?_); (focus ((try dsimp only); exact ⟨hsB.rcell (List.mem_cons_self ..) rfl, HB.out _ _ _ hsB⟩)); clear hK K; (try simp only [Act.put, List.setIfInBounds_toArray, List.set_cons_zero, List.set_cons_succ]))
        (refine wpAnyS_ready (rs := [7]) (by kernel_rfl) (by simp) ?_; refine AllS.consL rfl (fun K hK => ?_) AllS.nil)
        go_simp
        (refine hK.out _ _ ?_ (fun hHeld => ?_); (focus ((try dsimp only); exact ⟨(hsB.alloc _).rcell (List.mem_cons_self ..) rfl, HB.out _ _ _ (hsB.alloc _)⟩)); clear hK K; (try simp only [Act.put, List.setIfInBounds_toArray, List.set_cons_zero, List.set_cons_succ]))
        (refine wpAnyS_ready (rs := [8]) (by kernel_rfl) (by simp) ?_; refine AllS.consL rfl (fun K hK => ?_) AllS.nil)
        have hsC := hsB.perm (List.perm_append_comm (l₁ := [_, _, _]) (l₂ := [_]))
        refine step_app rfl _ _ 37 rfl Tryz.elStr (by exact hsC.alloc _) rfl (by exact Sl.one _ _ _) (by intro u hu; simp at hu; subst hu; rfl) (by omega) ?_
        intro vB wB hsD _
        obtain ⟨qo, qc, rfl, _⟩ := id hsD.sl0
        (refine hK.out _ _ ?_ (fun hHeld => ?_); (focus ((try dsimp only); exact ⟨hsD.rcell (j := 0) (List.mem_cons_of_mem _ (List.mem_cons_self ..)) rfl, HB.out _ _ _ hsD⟩)); clear hK K; (try simp only [Act.put, List.setIfInBounds_toArray, List.set_cons_zero, List.set_cons_succ]))
        (refine wpAnyS_seq (by rfl) (by kernel_rfl) ?_; simp only [List.drop_succ_cons, List.drop_zero])
        go_wp2_with ((with_reducible show wpList _ _ _ _ _ _); refine wpl_store1 rfl 37 _ _ rfl hsD.swap (0) rfl (.slice qo (i + 1) qc) rfl rfl (by kernel_rfl) (by simp) rfl ?_; intro wE hsE)
        exact ⟨⟨i + 1, .slice qo (i + 1) qc, .slice po (i + 1) pc, _, by go_num, by omega, Mx.hid HLEN.out, HEND.out _ _ _ hsE⟩, by simp [intOf]; omega⟩
      | true =>
        have hl0 : ¬ (l.length : Int) = 0 := by omega
        have hw1 : IntKind.i64.wrap ((i : Int) + 1) = (i : Int) + 1 := IntWalk.i64_in _ (by omega)
        have h9 : (0 : Int) ≤ ((i : Int) + 1) % (l.length : Int) := Int.emod_nonneg _ hl0
        have h10 : ((i : Int) + 1) % (l.length : Int) < (l.length : Int) := Int.emod_lt_of_pos _ (by omega)
        have hrem : ((i : Int) + 1) % (l.length : Int) = (K : Int) := by rw [hKK, if_pos rfl]; push_cast; rfl
        clear hKK hKe
        go_wp2_with ((with_reducible show wpList _ _ _ _ _ _); refine wpl_store1 rfl 22 _ _ rfl hs8.swap (1) rfl (.slice po (i + 1) pc) rfl rfl (by kernel_rfl) (by simp) rfl ?_; intro w9 hs9)
        have hsA : St w w9 [srow g (.slice io i ic) (.slice po (i + 1) pc), ⟨.slice po (i + 1) pc, 25, 1, i + 1, vs ++ [.slice co x.length cc]⟩, srow gz (.slice none 0 0) (.slice none 0 0), ⟨.slice io i ic, 9, 1, i, ss ((idsT l _).take i)⟩] (⟨.slice co x.length cc, 1, x.length, bs x⟩ :: rds vs (l.take i)) := hs9
        have HSA := Mx.hid hsA
        clear hsA hs9 hs8
        (refine wp_region_S (9) (fun W' => W'.cell? ⟨g, 0, none⟩ = some (.slice io i ic) ∧ W'.cell? ⟨blk, off + K, none⟩ = some (.slice yo y.length yc)) (by kernel_rfl) ?_ (fun hHeld => ?_); (focus ((try dsimp only); exact ⟨HSA.out.drew.rcell (List.mem_cons_self ..) rfl, HB.out _ _ _ HSA.out.drew⟩)))
        (refine wpAnyS_takeL (i := 0) (v := ?_) rfl (by kernel_rfl) (by kernel_rfl) (by kernel_rfl) (by kernel_rfl) (by kernel_rfl) (by kernel_rfl) (fun _ _ _ h => h) (Or.inl ⟨by rfl, ?_⟩) hHeld ?_; rotate_left 1; (focus (intro w' hSw; (try dsimp only at hSw); go_simp; (try with_reducible rfl))); (try simp only [Act.put, List.setIfInBounds_toArray, List.set_cons_zero, List.set_cons_succ]))
        (refine wpAnyS_takeL (i := 1) (v := ?_) rfl (by kernel_rfl) (by kernel_rfl) (by kernel_rfl) (by kernel_rfl) (by kernel_rfl) (by kernel_rfl) (fun _ _ _ h => h) (Or.inl ⟨by rfl, ?_⟩) hHeld ?_; rotate_left 1; (focus (intro w' hSw; (try dsimp only at hSw); go_simp; (try with_reducible rfl))); (try simp only [Act.put, List.setIfInBounds_toArray, List.set_cons_zero, List.set_cons_succ]))
        (refine wpAnyS_takeL (i := 2) (v := ?_) rfl (by kernel_rfl) (by kernel_rfl) (by kernel_rfl) (by kernel_rfl) (by kernel_rfl) (by kernel_rfl) (fun _ _ _ h => h) (Or.inl ⟨by rfl, ?_⟩) hHeld ?_; rotate_left 1; (focus (intro w' hSw; (try dsimp only at hSw); go_simp; (try with_reducible rfl))); (try simp only [Act.put, List.setIfInBounds_toArray, List.set_cons_zero, List.set_cons_succ]))
        (refine wpAnyS_takeL (i := 3) (v := ?_) rfl (by kernel_rfl) (by kernel_rfl) (by kernel_rfl) (by kernel_rfl) (by kernel_rfl) (by kernel_rfl) (fun _ _ _ h => h) (Or.inl ⟨by rfl, ?_⟩) hHeld ?_; rotate_left 1; (focus (intro w' hSw; (try dsimp only at hSw); go_simp; (try with_reducible rfl))); (try simp only [Act.put, List.setIfInBounds_toArray, List.set_cons_zero, List.set_cons_succ]))
        (refine wpAnyS_takeL (i := 4) (v := ?_) rfl (by kernel_rfl) (by kernel_rfl) (by kernel_rfl) (by kernel_rfl) (by kernel_rfl) (by kernel_rfl) (fun _ _ _ h => h) (Or.inl ⟨by rfl, ?_⟩) hHeld ?_; rotate_left 1; (focus (intro w' hSw; (try dsimp only at hSw); go_simp; (try with_reducible rfl))); (try simp only [Act.put, List.setIfInBounds_toArray, List.set_cons_zero, List.set_cons_succ]))
        (refine wpAnyS_takeL (i := 5) (v := ?_) rfl (by kernel_rfl) (by kernel_rfl) (by kernel_rfl) (by kernel_rfl) (by kernel_rfl) (by kernel_rfl) (fun _ _ _ h => h) (Or.inl ⟨by rfl, ?_⟩) hHeld ?_; rotate_left 1; (focus (intro w' hSw; (try dsimp only at hSw); go_simp; (try with_reducible rfl))); (try simp only [Act.put, List.setIfInBounds_toArray, List.set_cons_zero, List.set_cons_succ]))
        (refine wpAnyS_ready (rs := [6]) (by kernel_rfl) (by simp) ?_; refine AllS.consL rfl (fun K hK => ?_) AllS.nil)
        (go_simp; go_at_call 28; refine (rid_any _ y _ (HSA.out.drew.old HY.out) (by omega)).mono ?_; rintro e w' ⟨rfl, hk⟩; go_wp2_with fail)
        have hsB := HSA.out.drew.call0 hk
        (refine hK.out _ _ ?_ (fun hHeld => ?_); (focus ((try dsimp only); exact ⟨hsB.rcell (List.mem_cons_self ..) rfl, HB.out _ _ _ hsB⟩)); clear hK K; (try simp only [Act.put, List.setIfInBounds_toArray, List.set_cons_zero, List.set_cons_succ]))
        (refine wpAnyS_ready (rs := [7]) (by kernel_rfl) (by simp) ?_; refine AllS.consL rfl (fun K hK => ?_) AllS.nil)
        go_simp
        (refine hK.out _ _ ?_ (fun hHeld => ?_); (focus ((try dsimp only); exact ⟨(hsB.alloc _).rcell (List.mem_cons_self ..) rfl, HB.out _ _ _ (hsB.alloc _)⟩)); clear hK K; (try simp only [Act.put, List.setIfInBounds_toArray, List.set_cons_zero, List.set_cons_succ]))
        (refine wpAnyS_ready (rs := [8]) (by kernel_rfl) (by simp) ?_; refine AllS.consL rfl (fun K hK => ?_) AllS.nil)
        have hsC := hsB.perm (List.perm_append_comm (l₁ := [_, _, _]) (l₂ := [_]))
        refine step_app rfl _ _ 37 rfl Tryz.elStr (by exact hsC.alloc _) rfl (by exact Sl.one _ _ _) (by intro u hu; simp at hu; subst hu; rfl) (by omega) ?_
        intro vB wB hsD _
        obtain ⟨qo, qc, rfl, _⟩ := id hsD.sl0
        (refine hK.out _ _ ?_ (fun hHeld => ?_); (focus ((try dsimp only); exact ⟨hsD.rcell (j := 0) (List.mem_cons_of_mem _ (List.mem_cons_self ..)) rfl, HB.out _ _ _ hsD⟩)); clear hK K; (try simp only [Act.put, List.setIfInBounds_toArray, List.set_cons_zero, List.set_cons_succ]))
        (refine wpAnyS_seq (by rfl) (by kernel_rfl) ?_; simp only [List.drop_succ_cons, List.drop_zero])
        go_wp2_with ((with_reducible show wpList _ _ _ _ _ _); refine wpl_store1 rfl 37 _ _ rfl hsD.swap (0) rfl (.slice qo (i + 1) qc) rfl rfl (by kernel_rfl) (by simp) rfl ?_; intro wE hsE)
        exact ⟨⟨i + 1, .slice qo (i + 1) qc, .slice po (i + 1) pc, _, by go_num, by omega, Mx.hid HLEN.out, HEND.out _ _ _ hsE⟩, by simp [intOf]; omega⟩
    · obtain rfl : i = l.length := by omega
      have hid2 : (idsT l lie).take l.length = idsT l lie := by rw [← idsT_len l lie, List.take_length]
      rw [hid2, List.take_length] at hs
      rw [List.take_length] at HVS
      have hcs := hs
      go_wp2_with (first | ((with_reducible show wpList _ _ _ _ _ _); refine wpl_loadA rfl 40 _ rfl Tryz.aSrc (g) (0) rfl ([.slice io l.length ic, .slice oo l.length oc, .pointer none]) rfl (fun j u h => by rw [Nat.zero_add]; exact hcs.rcell (List.mem_cons_of_mem _ (List.mem_cons_self ..)) h) ?_) | ((with_reducible show wpList _ _ _ _ _ _); refine wpl_storeA rfl 40 _ _ rfl Tryz.aSrc (hcs.perm (perm_told2 _ _ _ _)) (0) rfl ([.slice io l.length ic, .slice oo l.length oc, .pointer none]) rfl (by rfl) (by simp) (by intro u hu; simp at hu; rcases hu with rfl | rfl | rfl <;> rfl) ?_; intro w9 hs9))
      have hsA : St w w9 [srow gz (.slice io l.length ic) (.slice oo l.length oc), srow g (.slice io l.length ic) (.slice oo l.length oc), ⟨.slice oo l.length oc, 25, 1, l.length, vs⟩, ⟨.slice io l.length ic, 9, 1, l.length, ss (idsT l lie)⟩] (rds vs l) := hs9.cast rfl (by simp)
      have hcw : ∀ i u, ([.slice io l.length ic, .slice oo l.length oc, .pointer none] : List Value)[i]? = some u → w9.cell? ⟨gz, i, none⟩ = some u := fun i u h => hsA.rcell (List.mem_cons_self ..) h
      refine bodyPost_ret (v := .agg ([.slice io l.length ic, .slice oo l.length oc, .pointer none] : List Value).toArray) (results_cellA Tryz.results15 _ Tryz.aSrc (g := gz) [.slice io l.length ic, .slice oo l.length oc, .pointer none] ?_ rfl hcw) ?_ ?_
      · first | (simp; done) | simp [Act.put]
      · first | (simp; done) | simp [Act.put]
      · exact ⟨.slice io l.length ic, .slice oo l.length oc, rfl, hsA.bare, hsA.sl (r := ⟨.slice io l.length ic, 9, 1, l.length, ss (idsT l lie)⟩) (by simp), ⟨vs, HVS.out, hsA.sl2, fun q hq => hsA.rd q hq⟩⟩
end Go.Proofs.YtlfdnlomlbbicaaGreatDoor

namespace Go.Mx
open Go Go.RowKit
theorem results_tmp4 {fn : Func} {t u v z : Tmp} (h : fn.results = #[.tmp t, .tmp u, .tmp v, .tmp z]) (tmps : Array Value) (P : Program) (w : World) :
    (results fn tmps).run P w = .ok (.tuple #[tmps.getD t undef, tmps.getD u undef, tmps.getD v undef, tmps.getD z undef]) w := by
  simp [results, h]
end Go.Mx
namespace Go.Proofs.YtlfdnlomlbbicaaGreatDoor
open Go.RowKit Go.Mx
def OnePost (w : World) (b : List UInt8) (G : Got) (e : Ending) (w' : World) : Prop :=
  (G.1 = 0 ∧ ∃ v, e = .returned (.tuple #[v, .int .i64 (G.2.2.1 : Int), .int .i64 ((b.length - G.2.2.2.length : Nat) : Int), .int .i64 0]) ∧ St w w' [pxr v G.2.1] []) ∨
  (G.1 ≠ 0 ∧ e = .returned (.tuple #[.slice none 0 0, .int .i64 0, .int .i64 0, .int .i64 G.1]) ∧ St w w' [] [])
theorem OnePost.bad {w w' : World} {b : List UInt8} {f : ByteArray → Option (List UInt8)} {pre : List (List UInt8 × Nat)} {r : List UInt8} (er : Int) (he : er ≠ 0) (h : rdOne f pre r = gBad er) (hs : St w w' [] []) :
    OnePost w b (rdObj f pre r) (.returned (.tuple #[.slice none 0 0, .int .i64 0, .int .i64 0, .int .i64 er])) w' := by
  have hG : rdObj f pre r = gBad er := by unfold rdObj; rw [h, if_pos (by simpa [gBad] using he)]
  rw [hG]
  exact .inr ⟨he, rfl, hs⟩
theorem OnePost.form {w w' : World} {b : List UInt8} {f : ByteArray → Option (List UInt8)} {pre : List (List UInt8 × Nat)} {r x t : List UInt8} {d : Nat} (h : rdOne f pre r = (0, x, d, t)) (hd : (decO x).2 ≠ 0) (hs : St w w' [] []) :
    OnePost w b (rdObj f pre r) (.returned (.tuple #[.slice none 0 0, .int .i64 0, .int .i64 0, .int .i64 4])) w' := by
  have hG : rdObj f pre r = gBad 4 := by unfold rdObj; rw [h, if_neg (by simp), if_pos hd]
  rw [hG]
  exact .inr ⟨by simp [gBad], rfl, hs⟩
theorem OnePost.ok {w w' : World} {b : List UInt8} {f : ByteArray → Option (List UInt8)} {pre : List (List UInt8 × Nat)} {r x t : List UInt8} {d n : Nat} {v : Value} (h : rdOne f pre r = (0, x, d, t)) (hd : (decO x).2 = 0) (hn : n = b.length - t.length) (hs : St w w' [pxr v x] []) :
    OnePost w b (rdObj f pre r) (.returned (.tuple #[v, .int .i64 (d : Int), .int .i64 (n : Int), .int .i64 0])) w' := by
  have hG : rdObj f pre r = (0, x, d, t) := by unfold rdObj; rw [h, if_neg (by simp), if_neg (by simpa using hd)]
  rw [hG]
  subst hn
  exact .inl ⟨rfl, v, rfl, hs⟩
set_option maxRecDepth 200000 in
/-- Nothing is left. -/
theorem rone_end (w : World) (vb vo vw vi vso : Value) (b : List UInt8) (P : Nat) (f : ByteArray → Option (List UInt8)) (pre : List (List UInt8 × Nat)) (hb : Sl w 1 vb b.length (bs b)) (hP : b.length ≤ P) {n1 n2 : Nat} {x1 x2 : List Value} (h1 : Sl w 1 vi n1 x1) (h2 : Sl w 1 vso n2 x2) :
    Calls Tryz.prog 51 #[vb, .int .i64 (P : Int), vo, vw, stv vi vso] w (OnePost w b (rdObj f pre (b.drop P))) := by
  have hO : rdOne f pre (b.drop P) = gBad 2 := by rw [List.drop_of_length_le hP]; rfl
  have HO := Mx.hid hO
  obtain ⟨bo, bc, rfl, _⟩ := id hb
  obtain ⟨io, ic, rfl, _⟩ := id h1
  obtain ⟨so, sc, rfl, _⟩ := id h2
  have d1 : decide (b.length ≤ P) = true := decide_eq_true hP
  clear hb h1 h2 hO hP
  go_enter Tryz.func51, Tryz.ntmps51
  go_wp2_with (((with_reducible show wpList _ _ _ _ _ _); refine wpl_box rfl 40 _ rfl (St.refl w) ([.slice io n1 ic, .slice so n2 sc, .pointer none]) (by rfl) ?_; intro gx wx hsx))
  ((try simp only [Exit.inBlock, Exit.then]); refine bodyPost_ret (results_tmp4 rfl _ _ _) rfl ?_)
  exact OnePost.bad 2 (by simp) HO.out hsx.bare
/-- What the document's Get says at a place. -/
theorem oget (w : World) (vb : Value) (b : List UInt8) (T : Nat) (hb : Sl w 1 vb b.length (bs b)) (hbl : b.length ≤ 140737488355328) (hT : T ≤ b.length) :
    Calls Tryz.prog 50 #[vb, .int .i64 (T : Int)] w fun e w' => e = .returned (.tuple #[.int .i64 (nmN (b.drop T) : Int), .int .i64 (if nmE (b.drop T) = 0 then ((T + nmJ (b.drop T) : Nat) : Int) else 0), .int .i64 (nmE (b.drop T))]) ∧ St w w' [] [] :=
  (refGet_any vb b (T : Int) w hb hbl).mono fun e w' h => by
    unfold GetPost at h
    rw [nm_at hT] at h
    exact h
set_option maxRecDepth 200000 in
set_option maxHeartbeats 4000000 in
/-- Whole. -/
theorem rone_whole (w : World) (vb vo vw vi vso : Value) (b r : List UInt8) (P : Nat) (f : ByteArray → Option (List UInt8)) (pre : List (List UInt8 × Nat)) (hb : Sl w 1 vb b.length (bs b)) (hlt : P < b.length) (hd : b.drop P = 0 :: r) (hbl : b.length ≤ 140737488355328) {n1 n2 : Nat} {x1 x2 : List Value} (h1 : Sl w 1 vi n1 x1) (h2 : Sl w 1 vso n2 x2) :
    Calls Tryz.prog 51 #[vb, .int .i64 (P : Int), vo, vw, stv vi vso] w (OnePost w b (rdObj f pre (b.drop P))) := by
  have hcons := List.drop_eq_getElem_cons hlt
  have hbP : b[P] = 0 := by rw [hcons] at hd; exact (List.cons.inj hd).1
  have hO : rdOne f pre (b.drop P) = rdWhole (b.drop (P + 1)) := by rw [hcons, hbP, rdOne, if_pos rfl]
  unfold rdWhole at hO
  obtain ⟨T, hT⟩ : ∃ T, P + 1 = T := ⟨_, rfl⟩
  rw [hT] at hO
  have hTI : (P : Int) + 1 = (T : Int) := by omega
  have hTl : T ≤ b.length := by omega
  have HGET := Mx.hid (fun wx (hs : St w wx [] []) => oget wx vb b T (hs.old hb) hbl hTl)
  have HB := Mx.hid hb
  obtain ⟨bo, bc, bb, bf, rfl, _, _, _, hbc⟩ := hb.byt
  obtain ⟨rfl, c0⟩ := hbc P hlt
  rw [hbP] at c0
  have HC := Mx.hid (fun (W : World) (R : List Row) (Q : List Rd) (h : St w W R Q) => h.keep c0)
  obtain ⟨io, ic, rfl, _⟩ := id h1
  obtain ⟨so, sc, rfl, _⟩ := id h2
  have hPI : (P : Int) < (b.length : Int) := by omega
  have d1 : decide (b.length ≤ P) = false := decide_eq_false (by omega)
  clear hb h1 h2 hd hcons hbP hbc hlt hT c0
  have hbad := fun (h : nmE (b.drop T) ≠ 0) => (nm_bad h).1
  have hgood := fun (h : nmE (b.drop T) = 0) => nm_good h
  generalize nmE (b.drop T) = E at *
  generalize nmN (b.drop T) = N at *
  generalize nmJ (b.drop T) = J at *
  obtain ⟨X, hX⟩ : ∃ X, T + J = X := ⟨_, rfl⟩
  rw [hX] at HGET
  go_enter Tryz.func51, Tryz.ntmps51
  by_cases hE : E = 0
  · subst hE
    rw [if_neg (by simp)] at hO
    rw [if_pos rfl] at HGET
    have hXl : X ≤ b.length := by have := (hgood rfl).2.1; rw [List.length_drop] at this; omega
    have hXX : (b.drop T).drop J = b.drop X := by rw [List.drop_drop, hX]
    rw [hXX] at hO
    have hdl : (b.drop X).length = b.length - X := List.length_drop
    have hLR : (b.length : Int) - (X : Int) = ((b.length - X : Nat) : Int) := by omega
    rw [hdl] at hO
    clear hXX hdl hbad
    by_cases hb2 : 20000 < N
    · rw [if_pos hb2] at hO
      have d2 : decide ((20000 : Int) < (N : Int)) = true := decide_eq_true (by omega)
      have HO := Mx.hid hO
      clear hO hb2 hgood
      go_wp2_with (first | ((with_reducible show wpList _ _ _ _ _ _); refine wpl_want rfl ?_) | (((with_reducible show wpList _ _ _ _ _ _); refine wpl_box rfl 40 _ rfl (St.refl w) ([.slice io n1 ic, .slice so n2 sc, .pointer none]) (by rfl) ?_; intro gx wx hsx); have z0 := HC.out _ _ _ hsx) | (go_at_call 50; refine (HGET.out _ hsx.bare).mono ?_; rintro e w2 ⟨rfl, hk⟩))
      ((try simp only [Exit.inBlock, Exit.then]); refine bodyPost_ret (results_tmp4 rfl _ _ _) rfl ?_)
      exact OnePost.bad 3 (by simp) HO.out (hsx.bare.call0 hk)
    · rw [if_neg hb2] at hO
      have d2 : decide ((20000 : Int) < (N : Int)) = false := decide_eq_false (by omega)
      by_cases hlen : b.length - X < N
      · rw [if_pos hlen] at hO
        have d3 : decide (b.length - X < N) = true := decide_eq_true hlen
        have HO := Mx.hid hO
        clear hO hb2 hlen hgood
        generalize b.length - X = R at *
        go_wp2_with (first | ((with_reducible show wpList _ _ _ _ _ _); refine wpl_want rfl ?_) | (((with_reducible show wpList _ _ _ _ _ _); refine wpl_box rfl 40 _ rfl (St.refl w) ([.slice io n1 ic, .slice so n2 sc, .pointer none]) (by rfl) ?_; intro gx wx hsx); have z0 := HC.out _ _ _ hsx) | (go_at_call 50; refine (HGET.out _ hsx.bare).mono ?_; rintro e w2 ⟨rfl, hk⟩))
        ((try simp only [Exit.inBlock, Exit.then]); refine bodyPost_ret (results_tmp4 rfl _ _ _) rfl ?_)
        exact OnePost.bad 2 (by simp) HO.out (hsx.bare.call0 hk)
      · rw [if_neg hlen] at hO
        have d3 : decide (b.length - X < N) = false := decide_eq_false hlen
        have hp20 : ((b.drop X).take N).length ≤ 20000 := by rw [List.length_take]; omega
        obtain ⟨Y, hY⟩ : ∃ Y, X + N = Y := ⟨_, rfl⟩
        have hYI : (X : Int) + (N : Int) = (Y : Int) := by omega
        have hYl : Y ≤ b.length := by omega
        obtain ⟨xc, p1, q1⟩ := HB.out.cutRun Tryz.elU8 (some (.int .i64 (X : Int))) (some (.int .i64 (Y : Int))) X Y (.inr ⟨.i64, rfl⟩) (.inr ⟨.i64, rfl⟩) (by omega) hYl
        have hxc := Sl.cutB (q1 _ HB.out) hYl (by omega)
        have htd : (b.take Y).drop X = (b.drop X).take N := by rw [List.drop_take, ← hY, Nat.add_sub_cancel_left]
        rw [htd] at hxc
        have hnx : Y = b.length - ((b.drop X).drop N).length := by rw [List.drop_drop, hY, List.length_drop]; omega
        have hptl : ((b.drop X).take N).length ≤ 140737488355328 := by rw [List.length_take]; omega
        have HXC := Mx.hid hxc
        have HNX := Mx.hid hnx
        have HO := Mx.hid hO
        clear hxc q1 htd hnx hO hY
        generalize (b.drop X).take N = pt at *
        generalize (b.drop X).drop N = rt at *
        clear hb2 hlen hgood hX
        generalize b.length - X = R at *
        go_wp2_with (first | ((with_reducible show wpList _ _ _ _ _ _); refine wpl_want rfl ?_) | (((with_reducible show wpList _ _ _ _ _ _); refine wpl_box rfl 40 _ rfl (St.refl w) ([.slice io n1 ic, .slice so n2 sc, .pointer none]) (by rfl) ?_; intro gx wx hsx); have z0 := HC.out _ _ _ hsx) | (go_at_call 50; refine (HGET.out _ hsx.bare).mono ?_; rintro e w2 ⟨rfl, hk⟩))
        have hs2 := hsx.bare.call0 hk
        refine (copyBytes_any _ pt _ (hs2.old HXC.out) hptl).mono ?_
        rintro e w5 ⟨vp, rfl, hk5⟩
        have hs5 := hs2.call1 hk5
        have HDC := Mx.hid (rdecode_any vp pt w5 hk5.sl0 (by omega))
        clear hk5 hk
        go_wp2_with (first | ((with_reducible show wpList _ _ _ _ _ _); refine wpl_want rfl ?_))
        refine HDC.out.mono ?_
        unfold RDecPost
        rintro e w6 ⟨dv, iv, pv, rfl, h3⟩
        generalize (decO pt).1 = o at *
        generalize hde : (decO pt).2 = e2 at *
        have HDE := Mx.hid hde
        clear hde HDC
        obtain ⟨kq, dq, iq, tq, pq, sq, aq, mq⟩ := o
        obtain ⟨qd1, qd2, rfl, _⟩ := id (show Sl w6 1 dv dq.length (bs dq) from h3.sl0)
        obtain ⟨qi1, qi2, rfl, _⟩ := id (show Sl w6 3 iv iq.length (itms iq) from h3.sl1)
        obtain ⟨qp1, qp2, rfl, _⟩ := id (show Sl w6 1 pv pq.length (ss pq) from h3.sl2)
        simp only [OV, obR6] at h3 ⊢
        by_cases h0 : e2 = 0
        · have HD0 := Mx.hid (HDE.out.trans h0)
          subst h0
          go_wp2_with (first | ((with_reducible show wpList _ _ _ _ _ _); refine wpl_want rfl ?_) | (((with_reducible show wpList _ _ _ _ _ _); refine wpl_storeA rfl 59 _ _ rfl Tryz.aObj6 (h3.madeAt ([.int .i64 (0), .slice none 0 0, .slice none 0 0, .string (str []), .slice none 0 0, .int .i64 (0), .int .i64 (0), .string (str [])]).toArray 59 8 1 _ rfl (by simp [maxLen]) rfl) (0) rfl ([.int .i64 kq, .slice qd1 dq.length qd2, .slice qi1 iq.length qi2, .string tq, .slice qp1 pq.length qp2, .int .i64 sq, .int .i64 aq, .string mq]) rfl (by rfl) (by simp) (by intro u hu; simp at hu; rcases hu with rfl | rfl | rfl | rfl | rfl | rfl | rfl | rfl <;> rfl) ?_; intro w7 hs7)))
          ((try simp only [Exit.inBlock, Exit.then]); refine bodyPost_ret (results_tmp4 rfl _ _ _) rfl ?_)
          exact OnePost.ok HO.out HD0.out HNX.out (hs5.call0 hs7.bare)
        · have HD0 := Mx.hid (fun h => h0 (HDE.out.symm.trans h))
          have hb2 : (e2 != 0) = true := by simpa using h0
          clear h0
          go_wp2_with (first | ((with_reducible show wpList _ _ _ _ _ _); refine wpl_want rfl ?_) | (((with_reducible show wpList _ _ _ _ _ _); refine wpl_storeA rfl 59 _ _ rfl Tryz.aObj6 (h3.madeAt ([.int .i64 (0), .slice none 0 0, .slice none 0 0, .string (str []), .slice none 0 0, .int .i64 (0), .int .i64 (0), .string (str [])]).toArray 59 8 1 _ rfl (by simp [maxLen]) rfl) (0) rfl ([.int .i64 kq, .slice qd1 dq.length qd2, .slice qi1 iq.length qi2, .string tq, .slice qp1 pq.length qp2, .int .i64 sq, .int .i64 aq, .string mq]) rfl (by rfl) (by simp) (by intro u hu; simp at hu; rcases hu with rfl | rfl | rfl | rfl | rfl | rfl | rfl | rfl <;> rfl) ?_; intro w7 hs7)))
          ((try simp only [Exit.inBlock, Exit.then]); refine bodyPost_ret (results_tmp4 rfl _ _ _) rfl ?_)
          exact OnePost.form HO.out HD0.out (hs5.bare.call0 hs7.bare)
  · rw [if_pos hE] at hO
    rw [if_neg hE] at HGET
    have HO := Mx.hid hO
    have he' : (E != 0) = true := by simpa using hE
    have HE := Mx.hid hE
    clear hO hbad hgood hE
    go_wp2_with (first | ((with_reducible show wpList _ _ _ _ _ _); refine wpl_want rfl ?_) | (((with_reducible show wpList _ _ _ _ _ _); refine wpl_box rfl 40 _ rfl (St.refl w) ([.slice io n1 ic, .slice so n2 sc, .pointer none]) (by rfl) ?_; intro gx wx hsx); have z0 := HC.out _ _ _ hsx) | (go_at_call 50; refine (HGET.out _ hsx.bare).mono ?_; rintro e w2 ⟨rfl, hk⟩))
    ((try simp only [Exit.inBlock, Exit.then]); refine bodyPost_ret (results_tmp4 rfl _ _ _) rfl ?_)
    exact OnePost.bad E HE.out HO.out (hsx.bare.call0 hk)
set_option maxRecDepth 200000 in
set_option maxHeartbeats 4000000 in
/-- By one ahead. -/
theorem rone_back (w : World) (vb vo vw vi vso : Value) (b r : List UInt8) (P : Nat) (f : ByteArray → Option (List UInt8)) (pre : List (List UInt8 × Nat)) (pl : List Nat) (hb : Sl w 1 vb b.length (bs b)) (hlt : P < b.length) (hd : b.drop P = 1 :: r) (hbl : b.length ≤ 140737488355328)
    (ho : LL w vo (pre.map Prod.fst)) (hw : Sl w 3 vw pre.length (rws pre pl)) (hpl : pl.length = pre.length) (hm : pre.length ≤ 512) (hpz : ∀ p ∈ pre, p.1.length ≤ 20000 ∧ p.2 ≤ 8) {n1 n2 : Nat} {x1 x2 : List Value} (h1 : Sl w 1 vi n1 x1) (h2 : Sl w 1 vso n2 x2) :
    Calls Tryz.prog 51 #[vb, .int .i64 (P : Int), vo, vw, stv vi vso] w (OnePost w b (rdObj f pre (b.drop P))) := by
  have hcons := List.drop_eq_getElem_cons hlt
  have hbP : b[P] = 1 := by rw [hcons] at hd; exact (List.cons.inj hd).1
  have hO : rdOne f pre (b.drop P) = rdBack pre (b.drop (P + 1)) := by rw [hcons, hbP, rdOne, if_neg (by decide), if_pos rfl]
  rw [rdBack_eq] at hO
  obtain ⟨S, hS⟩ : ∃ S, P + 1 = S := ⟨_, rfl⟩
  rw [hS] at hO
  have hSI : (P : Int) + 1 = (S : Int) := by omega
  have hSl : S ≤ b.length := by omega
  have HGS := Mx.hid (fun wx (hs : St w wx [] []) => oget wx vb b S (hs.old hb) hbl hSl)
  have HB := Mx.hid hb
  obtain ⟨bo, bc, bb', bf, rfl, _, _, _, hbc⟩ := hb.byt
  obtain ⟨rfl, c0⟩ := hbc P hlt
  rw [hbP] at c0
  have HC := Mx.hid (fun (W : World) (R : List Row) (Q : List Rd) (h : St w W R Q) => h.keep c0)
  obtain ⟨io, ic, rfl, _⟩ := id h1
  obtain ⟨so, sc, rfl, _⟩ := id h2
  obtain ⟨oo, oc, ob, of_, us, rfl, _, _, hoc, hos⟩ := ho.at
  rw [List.length_map] at *
  obtain ⟨wo, wc, rfl, _, _, _, _, hwc⟩ := hw.form
  have hPI : (P : Int) < (b.length : Int) := by omega
  have d1 : decide (b.length ≤ P) = false := decide_eq_false (by omega)
  clear hb h1 h2 hd hcons hbP hbc hlt hS c0 ho
  have hA : ahE pre (b.drop S) = if nmE (b.drop S) ≠ 0 then nmE (b.drop S) else if nmN (b.drop S) < 1 ∨ pre.length < nmN (b.drop S) then 7 else if 8 ≤ (pre.getD (pre.length - nmN (b.drop S)) ([], 0)).2 then 14 else 0 := rfl
  have hbad := fun (h : nmE (b.drop S) ≠ 0) => (nm_bad h).1
  have hgood := fun (h : nmE (b.drop S) = 0) => nm_good h
  generalize ahE pre (b.drop S) = A at *
  generalize nmE (b.drop S) = E at *
  generalize hMM : nmN (b.drop S) = M at *
  generalize nmJ (b.drop S) = J at *
  obtain ⟨T, hT⟩ : ∃ T, S + J = T := ⟨_, rfl⟩
  have hdT : (b.drop S).drop J = b.drop T := by rw [List.drop_drop, hT]
  rw [hT] at HGS
  rw [hdT] at hO
  clear hdT
  go_enter Tryz.func51, Tryz.ntmps51
  by_cases hE : E = 0
  · subst hE
    rw [if_neg (by simp)] at hA
    rw [if_pos rfl] at HGS
    have hTl : T ≤ b.length := by have := (hgood rfl).2.1; rw [List.length_drop] at this; omega
    clear hbad hgood hT hMM
    by_cases hb7 : M < 1 ∨ pre.length < M
    · rw [if_pos hb7] at hA
      subst hA
      rw [if_pos (by simp)] at hO
      have HO := Mx.hid hO
      clear hO
      by_cases hm1 : M < 1
      · have d2 : decide ((M : Int) < 1) = true := decide_eq_true (by omega)
        clear hb7 hm1
        go_wp2_with (first | ((with_reducible show wpList _ _ _ _ _ _); refine wpl_want rfl ?_) | (((with_reducible show wpList _ _ _ _ _ _); refine wpl_box rfl 40 _ rfl (St.refl w) ([.slice io n1 ic, .slice so n2 sc, .pointer none]) (by rfl) ?_; intro gx wx hsx); have z0 := HC.out _ _ _ hsx) | (go_at_call 50; refine (HGS.out _ hsx.bare).mono ?_; rintro e w2 ⟨rfl, hk⟩))
        ((try simp only [Exit.inBlock, Exit.then]); refine bodyPost_ret (results_tmp4 rfl _ _ _) rfl ?_)
        exact OnePost.bad 7 (by simp) HO.out (hsx.bare.call0 hk)
      · have d2 : decide ((M : Int) < 1) = false := decide_eq_false (by omega)
        have d3 : decide (pre.length < M) = true := decide_eq_true (by omega)
        clear hb7 hm1
        go_wp2_with (first | ((with_reducible show wpList _ _ _ _ _ _); refine wpl_want rfl ?_) | (((with_reducible show wpList _ _ _ _ _ _); refine wpl_box rfl 40 _ rfl (St.refl w) ([.slice io n1 ic, .slice so n2 sc, .pointer none]) (by rfl) ?_; intro gx wx hsx); have z0 := HC.out _ _ _ hsx) | (go_at_call 50; refine (HGS.out _ hsx.bare).mono ?_; rintro e w2 ⟨rfl, hk⟩))
        ((try simp only [Exit.inBlock, Exit.then]); refine bodyPost_ret (results_tmp4 rfl _ _ _) rfl ?_)
        exact OnePost.bad 7 (by simp) HO.out (hsx.bare.call0 hk)
    · rw [if_neg hb7] at hA
      obtain ⟨K, hK⟩ : ∃ K, pre.length - M = K := ⟨_, rfl⟩
      have hKl : K < pre.length := by omega
      have hkI : (pre.length : Int) - (M : Int) = (K : Int) := by omega
      have hw1 : IntKind.i64.wrap ((pre.length : Int) - (M : Int)) = (K : Int) := (IntWalk.i64_in _ (by omega)).trans hkI
      have hw2 : IntKind.i64.wrap (K : Int) = (K : Int) := IntWalk.i64_in _ (by omega)
      rw [hK] at hA hO
      have hpk : pre.getD K ([], 0) = pre[K] := by rw [List.getD_eq_getElem?_getD, List.getElem?_eq_getElem hKl]; rfl
      rw [hpk] at hA hO
      have d2 : decide ((M : Int) < 1) = false := decide_eq_false (by omega)
      have d3 : decide (pre.length < M) = false := decide_eq_false (by omega)
      have hKI : (K : Int) < (pre.length : Int) := by omega
      have hKm : K < (pre.map Prod.fst).length := by rw [List.length_map]; exact hKl
      obtain ⟨rfl, u0⟩ := hoc K (by simpa using hKl)
      have hu := hos K hKm
      rw [List.getElem_map] at hu
      obtain ⟨uo, uc, huv, -⟩ := Sl.form hu
      rw [huv] at u0 hu
      have hg := rws_get pre pl K hKl hpl
      obtain ⟨wb, wf, rfl, hwcc⟩ := hwc (by intro h; rw [h] at hg; cases hg)
      have w0' := hwcc (K * 3 + 2) _ hg
      rw [← Nat.add_assoc] at w0'
      have hpz1 := hpz _ (List.getElem_mem hKl)
      have HU := Mx.hid (fun (W : World) (R : List Row) (Q : List Rd) (h : St w W R Q) => h.keep u0)
      have HW := Mx.hid (fun (W : World) (R : List Row) (Q : List Rd) (h : St w W R Q) => h.keep w0')
      have HUS := Mx.hid hu
      clear hu huv u0 hoc hos hg hwcc w0' hb7 hpk hK hpz hpl hwc hw
      generalize us K = uk at *
      generalize pre[K] = p at *
      obtain ⟨bb, D⟩ := p
      simp only at hA hO hpz1 HUS HU HW
      obtain ⟨hpz1, hdz1⟩ := hpz1
      have hw3 : IntKind.i64.wrap ((D : Int) + 1) = (D : Int) + 1 := IntWalk.i64_in _ (by omega)
      have hD0 : (0 : Int) ≤ (D : Int) + 1 := by omega
      go_wp2_with (first | ((with_reducible show wpList _ _ _ _ _ _); refine wpl_want rfl ?_) | (((with_reducible show wpList _ _ _ _ _ _); refine wpl_box rfl 40 _ rfl (St.refl w) ([.slice io n1 ic, .slice so n2 sc, .pointer none]) (by rfl) ?_; intro gx wx hsx); have z0 := HC.out _ _ _ hsx) | (go_at_call 50; refine (HGS.out _ hsx.bare).mono ?_; rintro e w2 ⟨rfl, hk⟩))
      have hs2 := hsx.bare.call0 hk
      clear hsx hk HGS
      refine wp_region_C (fun W' => St w W' [] []) (by kernel_rfl) (by kernel_rfl) (by exact hs2.drew) ?_
      repeat ((first | (refine cq_y0 (v := ?_) (by with_reducible rfl) ?_ ?_; rotate_left 1; (focus (intro wq hq; (try dsimp only at hq); (have y0 := HU.out _ _ _ hq; have y1 := HW.out _ _ _ hq); go_simp; (first | done | with_reducible rfl | fail)))) | (refine cq_no (by go_simp; first | done | (intro h9; cases h9)) ?_) | (refine cq_yes (v := ?_) (by go_simp) ?_ ?_; rotate_left 1; (focus (intro wq hq; (try dsimp only at hq); (have y0 := HU.out _ _ _ hq; have y1 := HW.out _ _ _ hq); go_simp; (first | done | with_reducible rfl | fail))))); (try simp only [Act.put, List.setIfInBounds_toArray, List.set_cons_zero, List.set_cons_succ]))
      refine cq_nil ?_
      intro wq hq
      (try dsimp only at hq)
      clear hs2
      by_cases h8 : 8 ≤ D
      · rw [if_pos h8] at hA
        subst hA
        rw [if_pos (by simp)] at hO
        have HO := Mx.hid hO
        have d4 : decide ((8 : Int) < (D : Int) + 1) = true := decide_eq_true (by omega)
        clear hO h8
        go_wp2_with (first | ((with_reducible show wpList _ _ _ _ _ _); refine wpl_want rfl ?_))
        ((try simp only [Exit.inBlock, Exit.then]); refine bodyPost_ret (results_tmp4 rfl _ _ _) rfl ?_)
        exact OnePost.bad 14 (by simp) HO.out hq
      · rw [if_neg h8] at hA
        subst hA
        rw [if_neg (by simp)] at hO
        have d4 : decide ((8 : Int) < (D : Int) + 1) = false := decide_eq_false (by omega)
        have HBY := Mx.hid (fun (W : World) (h : St wq W [] []) => (hq.call0 h).old HUS.out)
        have hbbl : bb.length ≤ 140737488355328 := by omega
        have H0 := hq
        clear h8 hq
        have HGET := Mx.hid (fun wx (hs : St w wx [] []) => oget wx _ b T (hs.old HB.out) hbl hTl)
        unfold rdDel at hO
        have hbad := fun (h : nmE (b.drop T) ≠ 0) => (nm_bad h).1
        have hgood := fun (h : nmE (b.drop T) = 0) => nm_good h
        generalize nmE (b.drop T) = E at *
        generalize nmN (b.drop T) = N at *
        generalize nmJ (b.drop T) = J at *
        obtain ⟨X, hX⟩ : ∃ X, T + J = X := ⟨_, rfl⟩
        rw [hX] at HGET
        by_cases hE : E = 0
        · subst hE
          rw [if_neg (by simp)] at hO
          rw [if_pos rfl] at HGET
          have hXl : X ≤ b.length := by have := (hgood rfl).2.1; rw [List.length_drop] at this; omega
          have hXX : (b.drop T).drop J = b.drop X := by rw [List.drop_drop, hX]
          rw [hXX] at hO
          have hdl : (b.drop X).length = b.length - X := List.length_drop
          have hLR : (b.length : Int) - (X : Int) = ((b.length - X : Nat) : Int) := by omega
          rw [hdl] at hO
          clear hXX hdl hbad
          by_cases hlen : b.length - X < N
          · rw [if_pos hlen] at hO
            have d3 : decide (b.length - X < N) = true := decide_eq_true hlen
            have HO := Mx.hid hO
            clear hO hlen hgood
            generalize b.length - X = R at *
            go_wp2_with (first | ((with_reducible show wpList _ _ _ _ _ _); refine wpl_want rfl ?_) | (go_at_call 50; refine (HGET.out _ H0).mono ?_; rintro e w2 ⟨rfl, hk⟩))
            ((try simp only [Exit.inBlock, Exit.then]); refine bodyPost_ret (results_tmp4 rfl _ _ _) rfl ?_)
            exact OnePost.bad 2 (by simp) HO.out (H0.call0 hk)
          · rw [if_neg hlen] at hO
            have d3 : decide (b.length - X < N) = false := decide_eq_false hlen
            obtain ⟨Y, hY⟩ : ∃ Y, X + N = Y := ⟨_, rfl⟩
            have hYI : (X : Int) + (N : Int) = (Y : Int) := by omega
            have hYl : Y ≤ b.length := by omega
            obtain ⟨xc, p1, q1⟩ := HB.out.cutRun Tryz.elU8 (some (.int .i64 (X : Int))) (some (.int .i64 (Y : Int))) X Y (.inr ⟨.i64, rfl⟩) (.inr ⟨.i64, rfl⟩) (by omega) hYl
            have hxc := Sl.cutB (q1 _ HB.out) hYl (by omega)
            have htd : (b.take Y).drop X = (b.drop X).take N := by rw [List.drop_take, ← hY, Nat.add_sub_cancel_left]
            rw [htd] at hxc
            have hnx : Y = b.length - ((b.drop X).drop N).length := by rw [List.drop_drop, hY, List.length_drop]; omega
            have hptl : ((b.drop X).take N).length ≤ 140737488355328 := by rw [List.length_take]; omega
            have HXC := Mx.hid hxc
            have HNX := Mx.hid hnx
            have HO := Mx.hid hO
            clear hxc q1 htd hnx hO hY
            generalize (b.drop X).take N = pt at *
            generalize (b.drop X).drop N = rt at *
            clear hlen hgood hX
            generalize b.length - X = R at *
            go_wp2_with (first | ((with_reducible show wpList _ _ _ _ _ _); refine wpl_want rfl ?_) | (go_at_call 50; refine (HGET.out _ H0).mono ?_; rintro e w2 ⟨rfl, hk⟩))
            have hs2 := H0.call0 hk
            refine (copyBytes_any _ pt _ (hs2.old HXC.out) hptl).mono ?_
            rintro e w5 ⟨vp, rfl, hk5⟩
            have hs5 := hs2.call0 hk5.bare
            have HAP := Mx.hid (refApply_any w5 _ vp bb pt (HBY.out _ (hk.call0 hk5.bare)) hk5.sl0 hbbl hptl)
            unfold ApplyPost at HAP
            clear hk5 hk hs2
            go_wp2_with (first | ((with_reducible show wpList _ _ _ _ _ _); refine wpl_want rfl ?_))
            refine HAP.out.mono ?_
            rintro e w8 ⟨va, rfl, hka⟩
            have hx20 := apR_le bb pt
            clear HAP
            generalize (apR bb pt).1 = A at *
            generalize (apR bb pt).2 = px at *
            have hs8 := hs5.call1 hka
            by_cases hA : A = 0
            · subst hA
              have hO := HO.out
              rw [if_neg (by simp)] at hO
              have HO := Mx.hid hO
              have HDC := Mx.hid (rdecode_any va px w8 hka.sl0 (by omega))
              clear hO hka hs5
              go_wp2_with (first | ((with_reducible show wpList _ _ _ _ _ _); refine wpl_want rfl ?_))
              refine HDC.out.mono ?_
              unfold RDecPost
              rintro e w6 ⟨dv, iv, pv, rfl, h3⟩
              generalize (decO px).1 = o at *
              generalize hde : (decO px).2 = e2 at *
              have HDE := Mx.hid hde
              clear hde HDC
              obtain ⟨kq, dq, iq, tq, pq, sq, aq, mq⟩ := o
              obtain ⟨qd1, qd2, rfl, _⟩ := id (show Sl w6 1 dv dq.length (bs dq) from h3.sl0)
              obtain ⟨qi1, qi2, rfl, _⟩ := id (show Sl w6 3 iv iq.length (itms iq) from h3.sl1)
              obtain ⟨qp1, qp2, rfl, _⟩ := id (show Sl w6 1 pv pq.length (ss pq) from h3.sl2)
              simp only [OV, obR6] at h3 ⊢
              by_cases h0 : e2 = 0
              · have HD0 := Mx.hid (HDE.out.trans h0)
                subst h0
                go_wp2_with (first | ((with_reducible show wpList _ _ _ _ _ _); refine wpl_want rfl ?_) | (((with_reducible show wpList _ _ _ _ _ _); refine wpl_storeA rfl 59 _ _ rfl Tryz.aObj6 (h3.madeAt ([.int .i64 (0), .slice none 0 0, .slice none 0 0, .string (str []), .slice none 0 0, .int .i64 (0), .int .i64 (0), .string (str [])]).toArray 59 8 1 _ rfl (by simp [maxLen]) rfl) (0) rfl ([.int .i64 kq, .slice qd1 dq.length qd2, .slice qi1 iq.length qi2, .string tq, .slice qp1 pq.length qp2, .int .i64 sq, .int .i64 aq, .string mq]) rfl (by rfl) (by simp) (by intro u hu; simp at hu; rcases hu with rfl | rfl | rfl | rfl | rfl | rfl | rfl | rfl <;> rfl) ?_; intro w7 hs7)))
                ((try simp only [Exit.inBlock, Exit.then]); refine bodyPost_ret (results_tmp4 rfl _ _ _) rfl ?_)
                exact OnePost.ok HO.out HD0.out HNX.out (hs8.call0 hs7.bare)
              · have HD0 := Mx.hid (fun h => h0 (HDE.out.symm.trans h))
                have hb2 : (e2 != 0) = true := by simpa using h0
                clear h0
                go_wp2_with (first | ((with_reducible show wpList _ _ _ _ _ _); refine wpl_want rfl ?_) | (((with_reducible show wpList _ _ _ _ _ _); refine wpl_storeA rfl 59 _ _ rfl Tryz.aObj6 (h3.madeAt ([.int .i64 (0), .slice none 0 0, .slice none 0 0, .string (str []), .slice none 0 0, .int .i64 (0), .int .i64 (0), .string (str [])]).toArray 59 8 1 _ rfl (by simp [maxLen]) rfl) (0) rfl ([.int .i64 kq, .slice qd1 dq.length qd2, .slice qi1 iq.length qi2, .string tq, .slice qp1 pq.length qp2, .int .i64 sq, .int .i64 aq, .string mq]) rfl (by rfl) (by simp) (by intro u hu; simp at hu; rcases hu with rfl | rfl | rfl | rfl | rfl | rfl | rfl | rfl <;> rfl) ?_; intro w7 hs7)))
                ((try simp only [Exit.inBlock, Exit.then]); refine bodyPost_ret (results_tmp4 rfl _ _ _) rfl ?_)
                exact OnePost.form HO.out HD0.out (hs8.bare.call0 hs7.bare)
            · have hO := HO.out
              rw [if_pos hA] at hO
              have HO := Mx.hid hO
              have HA2 := Mx.hid hA
              have he' : (A != 0) = true := by simpa using hA
              clear hO hA hka
              go_wp2_with (first | ((with_reducible show wpList _ _ _ _ _ _); refine wpl_want rfl ?_))
              ((try simp only [Exit.inBlock, Exit.then]); refine bodyPost_ret (results_tmp4 rfl _ _ _) rfl ?_)
              exact OnePost.bad A HA2.out HO.out hs8.bare
        · rw [if_pos hE] at hO
          rw [if_neg hE] at HGET
          have HO := Mx.hid hO
          have he' : (E != 0) = true := by simpa using hE
          have HE := Mx.hid hE
          clear hO hbad hgood hE
          go_wp2_with (first | ((with_reducible show wpList _ _ _ _ _ _); refine wpl_want rfl ?_) | (go_at_call 50; refine (HGET.out _ H0).mono ?_; rintro e w2 ⟨rfl, hk⟩))
          ((try simp only [Exit.inBlock, Exit.then]); refine bodyPost_ret (results_tmp4 rfl _ _ _) rfl ?_)
          exact OnePost.bad E HE.out HO.out (H0.call0 hk)
  · rw [if_pos hE] at hA
    rw [if_pos (by rw [hA]; exact hE)] at hO
    rw [if_neg hE] at HGS
    have HO := Mx.hid hO
    have HE := Mx.hid hE
    have he' : (E != 0) = true := by simpa using hE
    have HAE := Mx.hid hA
    clear hO hbad hgood hE hA
    go_wp2_with (first | ((with_reducible show wpList _ _ _ _ _ _); refine wpl_want rfl ?_) | (((with_reducible show wpList _ _ _ _ _ _); refine wpl_box rfl 40 _ rfl (St.refl w) ([.slice io n1 ic, .slice so n2 sc, .pointer none]) (by rfl) ?_; intro gx wx hsx); have z0 := HC.out _ _ _ hsx) | (go_at_call 50; refine (HGS.out _ hsx.bare).mono ?_; rintro e w2 ⟨rfl, hk⟩))
    ((try simp only [Exit.inBlock, Exit.then]); refine bodyPost_ret (results_tmp4 rfl _ _ _) rfl ?_)
    exact OnePost.bad E HE.out (by rw [← HAE.out]; exact HO.out) (hsx.bare.call0 hk)
end Go.Proofs.YtlfdnlomlbbicaaGreatDoor

namespace Go.Proofs.YtlfdnlomlbbicaaGreatDoor
open Go.RowKit Go.Mx
set_option maxRecDepth 200000 in
set_option maxHeartbeats 4000000 in
/-- By one elsewhere. -/
theorem rone_far (w : World) (vb vo vw vi vso : Value) (b r : List UInt8) (P : Nat) (l : List (List UInt8)) (lie : Bool) (pre : List (List UInt8 × Nat)) (hb : Sl w 1 vb b.length (bs b)) (hlt : P < b.length) (hd : b.drop P = 2 :: r) (hbl : b.length ≤ 140737488355328)
    (hi : Sl w 1 vi l.length (ss (idsT l lie))) (ho : LL w vso l) (hz : ∀ x ∈ l, x.length ≤ 140737488351232) :
    Calls Tryz.prog 51 #[vb, .int .i64 (P : Int), vo, vw, stv vi vso] w (OnePost w b (rdObj (srcF l lie) pre (b.drop P))) := by
  have hcons := List.drop_eq_getElem_cons hlt
  have hbP : b[P] = 2 := by rw [hcons] at hd; exact (List.cons.inj hd).1
  have hO : rdOne (srcF l lie) pre (b.drop P) = rdFar (srcF l lie) (b.drop (P + 1)) := by rw [hcons, hbP, rdOne, if_neg (by decide), if_neg (by decide), if_pos rfl]
  rw [rdFar_eq] at hO
  obtain ⟨S, hS⟩ : ∃ S, P + 1 = S := ⟨_, rfl⟩
  rw [hS] at hO
  have hSI : (P : Int) + 1 = (S : Int) := by omega
  have hSl : S ≤ b.length := by omega
  have HB := Mx.hid hb
  obtain ⟨bo, bc, bb', bf, rfl, _, _, _, hbc⟩ := hb.byt
  obtain ⟨rfl, c0⟩ := hbc P hlt
  rw [hbP] at c0
  have HC := Mx.hid (fun (W : World) (R : List Row) (Q : List Rd) (h : St w W R Q) => h.keep c0)
  have HGS := Mx.hid (fun (id : ByteArray) (wx : World) (h : St w wx [] []) => sget_any vi vso l lie id wx (h.old hi) (LL.old h ho) hz)
  have HMEM := Mx.hid (fun (id : ByteArray) (x : List UInt8) (h : srcF l lie id = some x) => hz x (srcI_mem h))
  obtain ⟨io, ic, rfl, _⟩ := id hi
  obtain ⟨so, sc, _, _, _, rfl, _⟩ := ho.at
  have hPI : (P : Int) < (b.length : Int) := by omega
  have d1 : decide (b.length ≤ P) = false := decide_eq_false (by omega)
  have hdl : (b.drop S).length = b.length - S := List.length_drop
  have hLS : (b.length : Int) - (S : Int) = ((b.length - S : Nat) : Int) := by omega
  have hE : elE (srcF l lie) (b.drop S) = if b.length - S < 32 then 2 else match elF (srcF l lie) (b.drop S) with | none => 7 | some x => if idB x ≠ str (hexL ((b.drop S).take 32)) then 5 else 0 := by unfold elE; rw [hdl]; cases elF (srcF l lie) (b.drop S) <;> rfl
  have hF : elF (srcF l lie) (b.drop S) = srcF l lie (str (hexL ((b.drop S).take 32))) := rfl
  clear hb hi ho hz hd hcons hbP hbc hlt hS c0 hdl
  by_cases h32 : b.length - S < 32
  · rw [if_pos h32] at hE
    rw [hE, if_pos (by simp)] at hO
    have HO := Mx.hid hO
    have d2 : decide (((b.length - S : Nat) : Int) < 32) = true := decide_eq_true (by omega)
    clear hO hE hF h32
    generalize b.length - S = R at *
    go_enter Tryz.func51, Tryz.ntmps51
    go_wp2_with (first | ((with_reducible show wpList _ _ _ _ _ _); refine wpl_want rfl ?_) | (((with_reducible show wpList _ _ _ _ _ _); refine wpl_box rfl 40 _ rfl (St.refl w) ([.slice io l.length ic, .slice so l.length sc, .pointer none]) (by rfl) ?_; intro gx wx hsx); have z0 := HC.out _ _ _ hsx))
    ((try simp only [Exit.inBlock, Exit.then]); refine bodyPost_ret (results_tmp4 rfl _ _ _) rfl ?_)
    exact OnePost.bad 2 (by simp) HO.out hsx.bare
  · rw [if_neg h32] at hE
    have d2 : decide (((b.length - S : Nat) : Int) < 32) = false := decide_eq_false (by omega)
    obtain ⟨T, hT⟩ : ∃ T, S + 32 = T := ⟨_, rfl⟩
    have hTI : (S : Int) + 32 = (T : Int) := by omega
    have hTl : T ≤ b.length := by omega
    obtain ⟨xc, p1, q1⟩ := HB.out.cutRun Tryz.elU8 (some (.int .i64 (S : Int))) (some (.int .i64 (T : Int))) S T (.inr ⟨.i64, rfl⟩) (.inr ⟨.i64, rfl⟩) (by omega) hTl
    have hxc := Sl.cutB (q1 _ HB.out) hTl (by omega)
    have htd : (b.take T).drop S = (b.drop S).take 32 := by rw [List.drop_take, ← hT, Nat.add_sub_cancel_left]
    rw [htd] at hxc
    have HXC := Mx.hid hxc
    have hdT : (b.drop S).drop 32 = b.drop T := by rw [List.drop_drop, hT]
    rw [hdT] at hO
    have ht32 : ((b.drop S).take 32).length ≤ 70368744177664 := by rw [List.length_take]; omega
    have HHEX := Mx.hid (fun (wx : World) (h : St w wx [] []) => hex_any xc ((b.drop S).take 32) wx (h.old HXC.out) ht32)
    clear hxc q1 htd h32 hT hdT ht32
    generalize b.length - S = R at *
    generalize str (hexL ((b.drop S).take 32)) = idn at *
    rw [hF] at hE hO
    generalize elE (srcF l lie) (b.drop S) = A at *
    have HGS2 := Mx.hid (HGS.out idn)
    have HMEM2 := Mx.hid (HMEM.out idn)
    clear HGS HMEM hF HXC
    obtain ⟨F, hFF⟩ : ∃ F, srcF l lie idn = F := ⟨_, rfl⟩
    rw [hFF] at HGS2 HMEM2 hE hO
    clear hFF
    go_enter Tryz.func51, Tryz.ntmps51
    go_wp2_with (first | ((with_reducible show wpList _ _ _ _ _ _); refine wpl_want rfl ?_) | (((with_reducible show wpList _ _ _ _ _ _); refine wpl_box rfl 40 _ rfl (St.refl w) ([.slice io l.length ic, .slice so l.length sc, .pointer none]) (by rfl) ?_; intro gx wx hsx); have z0 := HC.out _ _ _ hsx))
    refine (HHEX.out _ hsx.bare).mono ?_
    rintro e w2 ⟨rfl, hk⟩
    replace hsx := hsx.call0 hk
    clear hk HHEX
    go_wp2_with (first | ((with_reducible show wpList _ _ _ _ _ _); refine wpl_want rfl ?_) | ((with_reducible show wpList _ _ _ _ _ _); refine wpl_loadA rfl 40 _ rfl Tryz.aSrc (gx) (0) rfl ([.slice io l.length ic, .slice so l.length sc, .pointer none]) rfl (fun j u h => by rw [Nat.zero_add]; exact hsx.rcell (List.mem_cons_self ..) h) ?_))
    refine (HGS2.out _ hsx.bare).mono ?_
    unfold SourceAns
    intro e w3 he
    have H1 := hsx.bare
    clear hsx HGS2 z0
    cases F with
    | none =>
      obtain ⟨rfl, hk⟩ := he
      replace hE : A = 7 := hE
      subst hE
      rw [if_pos (by simp)] at hO
      have HO := Mx.hid hO
      clear hO
      go_wp2_with (first | ((with_reducible show wpList _ _ _ _ _ _); refine wpl_want rfl ?_))
      ((try simp only [Exit.inBlock, Exit.then]); refine bodyPost_ret (results_tmp4 rfl _ _ _) rfl ?_)
      exact OnePost.bad 7 (by simp) HO.out (H1.call0 hk)
    | some bb =>
      obtain ⟨vx, rfl, hk⟩ := he
      replace hE : A = if idB bb ≠ idn then 5 else 0 := hE
      have hbbl0 := HMEM2.out bb rfl
      obtain ⟨xo, xcc, rfl, _⟩ := id hk.sl0
      have hs3 := H1.call1 hk
      have HID := Mx.hid (rid_any _ bb w3 hs3.sl0 hbbl0)
      rw [show str (hexL (sha bb)) = idB bb from rfl] at HID
      clear hk
      by_cases hi : idB bb = idn
      · rw [hi] at HID
        have hE0 : A = 0 := by rw [hE]; simp [hi]
        subst hE0
        clear hE
        rw [if_neg (by simp)] at hO
        simp only [Option.getD_some] at hO
        have ht := tx_beq (x := idn) rfl
        clear hi
        go_wp2_with (first | ((with_reducible show wpList _ _ _ _ _ _); refine wpl_want rfl ?_) | (go_at_call 28; refine HID.out.mono ?_; rintro e w4 ⟨rfl, hk4⟩))
        have H0 := hs3.bare.call0 hk4
        have HBY := Mx.hid (fun (W : World) (h : St w4 W [] []) => (hk4.call0 h).old hs3.sl0)
        have hbbl : bb.length ≤ 140737488355328 := by omega
        clear hk4 hs3 HID HMEM2
        have HGET := Mx.hid (fun wx (hs : St w wx [] []) => oget wx _ b T (hs.old HB.out) hbl hTl)
        unfold rdDel at hO
        have hbad := fun (h : nmE (b.drop T) ≠ 0) => (nm_bad h).1
        have hgood := fun (h : nmE (b.drop T) = 0) => nm_good h
        generalize nmE (b.drop T) = E at *
        generalize nmN (b.drop T) = N at *
        generalize nmJ (b.drop T) = J at *
        obtain ⟨X, hX⟩ : ∃ X, T + J = X := ⟨_, rfl⟩
        rw [hX] at HGET
        by_cases hE : E = 0
        · subst hE
          rw [if_neg (by simp)] at hO
          rw [if_pos rfl] at HGET
          have hXl : X ≤ b.length := by have := (hgood rfl).2.1; rw [List.length_drop] at this; omega
          have hXX : (b.drop T).drop J = b.drop X := by rw [List.drop_drop, hX]
          rw [hXX] at hO
          have hdl : (b.drop X).length = b.length - X := List.length_drop
          have hLR : (b.length : Int) - (X : Int) = ((b.length - X : Nat) : Int) := by omega
          rw [hdl] at hO
          clear hXX hdl hbad
          by_cases hlen : b.length - X < N
          · rw [if_pos hlen] at hO
            have d3 : decide (b.length - X < N) = true := decide_eq_true hlen
            have HO := Mx.hid hO
            clear hO hlen hgood
            generalize b.length - X = R at *
            go_wp2_with (first | ((with_reducible show wpList _ _ _ _ _ _); refine wpl_want rfl ?_) | (go_at_call 50; refine (HGET.out _ H0).mono ?_; rintro e w2 ⟨rfl, hk⟩))
            ((try simp only [Exit.inBlock, Exit.then]); refine bodyPost_ret (results_tmp4 rfl _ _ _) rfl ?_)
            exact OnePost.bad 2 (by simp) HO.out (H0.call0 hk)
          · rw [if_neg hlen] at hO
            have d3 : decide (b.length - X < N) = false := decide_eq_false hlen
            obtain ⟨Y, hY⟩ : ∃ Y, X + N = Y := ⟨_, rfl⟩
            have hYI : (X : Int) + (N : Int) = (Y : Int) := by omega
            have hYl : Y ≤ b.length := by omega
            obtain ⟨xc, p1, q1⟩ := HB.out.cutRun Tryz.elU8 (some (.int .i64 (X : Int))) (some (.int .i64 (Y : Int))) X Y (.inr ⟨.i64, rfl⟩) (.inr ⟨.i64, rfl⟩) (by omega) hYl
            have hxc := Sl.cutB (q1 _ HB.out) hYl (by omega)
            have htd : (b.take Y).drop X = (b.drop X).take N := by rw [List.drop_take, ← hY, Nat.add_sub_cancel_left]
            rw [htd] at hxc
            have hnx : Y = b.length - ((b.drop X).drop N).length := by rw [List.drop_drop, hY, List.length_drop]; omega
            have hptl : ((b.drop X).take N).length ≤ 140737488355328 := by rw [List.length_take]; omega
            have HXC := Mx.hid hxc
            have HNX := Mx.hid hnx
            have HO := Mx.hid hO
            clear hxc q1 htd hnx hO hY
            generalize (b.drop X).take N = pt at *
            generalize (b.drop X).drop N = rt at *
            clear hlen hgood hX
            generalize b.length - X = R at *
            go_wp2_with (first | ((with_reducible show wpList _ _ _ _ _ _); refine wpl_want rfl ?_) | (go_at_call 50; refine (HGET.out _ H0).mono ?_; rintro e w2 ⟨rfl, hk⟩))
            have hs2 := H0.call0 hk
            refine (copyBytes_any _ pt _ (hs2.old HXC.out) hptl).mono ?_
            rintro e w5 ⟨vp, rfl, hk5⟩
            have hs5 := hs2.call0 hk5.bare
            have HAP := Mx.hid (refApply_any w5 _ vp bb pt (HBY.out _ (hk.call0 hk5.bare)) hk5.sl0 hbbl hptl)
            unfold ApplyPost at HAP
            clear hk5 hk hs2
            go_wp2_with (first | ((with_reducible show wpList _ _ _ _ _ _); refine wpl_want rfl ?_))
            refine HAP.out.mono ?_
            rintro e w8 ⟨va, rfl, hka⟩
            have hx20 := apR_le bb pt
            clear HAP
            generalize (apR bb pt).1 = A at *
            generalize (apR bb pt).2 = px at *
            have hs8 := hs5.call1 hka
            by_cases hA : A = 0
            · subst hA
              have hO := HO.out
              rw [if_neg (by simp)] at hO
              have HO := Mx.hid hO
              have HDC := Mx.hid (rdecode_any va px w8 hka.sl0 (by omega))
              clear hO hka hs5
              go_wp2_with (first | ((with_reducible show wpList _ _ _ _ _ _); refine wpl_want rfl ?_))
              refine HDC.out.mono ?_
              unfold RDecPost
              rintro e w6 ⟨dv, iv, pv, rfl, h3⟩
              generalize (decO px).1 = o at *
              generalize hde : (decO px).2 = e2 at *
              have HDE := Mx.hid hde
              clear hde HDC
              obtain ⟨kq, dq, iq, tq, pq, sq, aq, mq⟩ := o
              obtain ⟨qd1, qd2, rfl, _⟩ := id (show Sl w6 1 dv dq.length (bs dq) from h3.sl0)
              obtain ⟨qi1, qi2, rfl, _⟩ := id (show Sl w6 3 iv iq.length (itms iq) from h3.sl1)
              obtain ⟨qp1, qp2, rfl, _⟩ := id (show Sl w6 1 pv pq.length (ss pq) from h3.sl2)
              simp only [OV, obR6] at h3 ⊢
              by_cases h0 : e2 = 0
              · have HD0 := Mx.hid (HDE.out.trans h0)
                subst h0
                go_wp2_with (first | ((with_reducible show wpList _ _ _ _ _ _); refine wpl_want rfl ?_) | (((with_reducible show wpList _ _ _ _ _ _); refine wpl_storeA rfl 59 _ _ rfl Tryz.aObj6 (h3.madeAt ([.int .i64 (0), .slice none 0 0, .slice none 0 0, .string (str []), .slice none 0 0, .int .i64 (0), .int .i64 (0), .string (str [])]).toArray 59 8 1 _ rfl (by simp [maxLen]) rfl) (0) rfl ([.int .i64 kq, .slice qd1 dq.length qd2, .slice qi1 iq.length qi2, .string tq, .slice qp1 pq.length qp2, .int .i64 sq, .int .i64 aq, .string mq]) rfl (by rfl) (by simp) (by intro u hu; simp at hu; rcases hu with rfl | rfl | rfl | rfl | rfl | rfl | rfl | rfl <;> rfl) ?_; intro w7 hs7)))
                ((try simp only [Exit.inBlock, Exit.then]); refine bodyPost_ret (results_tmp4 rfl _ _ _) rfl ?_)
                exact OnePost.ok HO.out HD0.out HNX.out (hs8.call0 hs7.bare)
              · have HD0 := Mx.hid (fun h => h0 (HDE.out.symm.trans h))
                have hb2 : (e2 != 0) = true := by simpa using h0
                clear h0
                go_wp2_with (first | ((with_reducible show wpList _ _ _ _ _ _); refine wpl_want rfl ?_) | (((with_reducible show wpList _ _ _ _ _ _); refine wpl_storeA rfl 59 _ _ rfl Tryz.aObj6 (h3.madeAt ([.int .i64 (0), .slice none 0 0, .slice none 0 0, .string (str []), .slice none 0 0, .int .i64 (0), .int .i64 (0), .string (str [])]).toArray 59 8 1 _ rfl (by simp [maxLen]) rfl) (0) rfl ([.int .i64 kq, .slice qd1 dq.length qd2, .slice qi1 iq.length qi2, .string tq, .slice qp1 pq.length qp2, .int .i64 sq, .int .i64 aq, .string mq]) rfl (by rfl) (by simp) (by intro u hu; simp at hu; rcases hu with rfl | rfl | rfl | rfl | rfl | rfl | rfl | rfl <;> rfl) ?_; intro w7 hs7)))
                ((try simp only [Exit.inBlock, Exit.then]); refine bodyPost_ret (results_tmp4 rfl _ _ _) rfl ?_)
                exact OnePost.form HO.out HD0.out (hs8.bare.call0 hs7.bare)
            · have hO := HO.out
              rw [if_pos hA] at hO
              have HO := Mx.hid hO
              have HA2 := Mx.hid hA
              have he' : (A != 0) = true := by simpa using hA
              clear hO hA hka
              go_wp2_with (first | ((with_reducible show wpList _ _ _ _ _ _); refine wpl_want rfl ?_))
              ((try simp only [Exit.inBlock, Exit.then]); refine bodyPost_ret (results_tmp4 rfl _ _ _) rfl ?_)
              exact OnePost.bad A HA2.out HO.out hs8.bare
        · rw [if_pos hE] at hO
          rw [if_neg hE] at HGET
          have HO := Mx.hid hO
          have he' : (E != 0) = true := by simpa using hE
          have HE := Mx.hid hE
          clear hO hbad hgood hE
          go_wp2_with (first | ((with_reducible show wpList _ _ _ _ _ _); refine wpl_want rfl ?_) | (go_at_call 50; refine (HGET.out _ H0).mono ?_; rintro e w2 ⟨rfl, hk⟩))
          ((try simp only [Exit.inBlock, Exit.then]); refine bodyPost_ret (results_tmp4 rfl _ _ _) rfl ?_)
          exact OnePost.bad E HE.out HO.out (H0.call0 hk)
      · have hE0 : A = 5 := by rw [hE]; simp [hi]
        subst hE0
        clear hE
        rw [if_pos (by simp)] at hO
        have HO := Mx.hid hO
        have ht := tx_bne hi
        generalize idB bb = idx at *
        clear hO hi
        go_wp2_with (first | ((with_reducible show wpList _ _ _ _ _ _); refine wpl_want rfl ?_) | (go_at_call 28; refine HID.out.mono ?_; rintro e w4 ⟨rfl, hk4⟩))
        ((try simp only [Exit.inBlock, Exit.then]); refine bodyPost_ret (results_tmp4 rfl _ _ _) rfl ?_)
        exact OnePost.bad 5 (by simp) HO.out (hs3.bare.call0 hk4)
set_option maxRecDepth 200000 in
theorem rone_other (w : World) (vb vo vw vi vso : Value) (b r : List UInt8) (k : UInt8) (P : Nat) (f : ByteArray → Option (List UInt8)) (pre : List (List UInt8 × Nat)) (hb : Sl w 1 vb b.length (bs b)) (hlt : P < b.length) (hd : b.drop P = k :: r) (k0 : k ≠ 0) (k1 : k ≠ 1) (k2 : k ≠ 2) {n1 n2 : Nat} {x1 x2 : List Value} (h1 : Sl w 1 vi n1 x1) (h2 : Sl w 1 vso n2 x2) :
    Calls Tryz.prog 51 #[vb, .int .i64 (P : Int), vo, vw, stv vi vso] w (OnePost w b (rdObj f pre (b.drop P))) := by
  have hcons := List.drop_eq_getElem_cons hlt
  have hbP : b[P] = k := by rw [hcons] at hd; exact (List.cons.inj hd).1
  have hO : rdOne f pre (b.drop P) = gBad 4 := by rw [hd, rdOne, if_neg k0, if_neg k1, if_neg k2]
  have HO := Mx.hid hO
  obtain ⟨bo, bc, bb', bf, rfl, _, _, _, hbc⟩ := hb.byt
  obtain ⟨rfl, c0⟩ := hbc P hlt
  rw [hbP] at c0
  have HC := Mx.hid (fun (W : World) (R : List Row) (Q : List Rd) (h : St w W R Q) => h.keep c0)
  obtain ⟨io, ic, rfl, _⟩ := id h1
  obtain ⟨so, sc, rfl, _⟩ := id h2
  have q0 : ((k.toNat : Int) == 0) = false := u8_kF (y := 0) k0
  have q1 : ((k.toNat : Int) == 1) = false := u8_kF (y := 1) k1
  have q2 : ((k.toNat : Int) == 2) = false := u8_kF (y := 2) k2
  have hPI : (P : Int) < (b.length : Int) := by omega
  have d1 : decide (b.length ≤ P) = false := decide_eq_false (by omega)
  generalize k.toNat = kk at *
  clear hb h1 h2 hd hcons hbP hbc hlt c0 hO k0 k1 k2
  go_enter Tryz.func51, Tryz.ntmps51
  go_wp2_with (first | ((with_reducible show wpList _ _ _ _ _ _); refine wpl_want rfl ?_) | (((with_reducible show wpList _ _ _ _ _ _); refine wpl_box rfl 40 _ rfl (St.refl w) ([.slice io n1 ic, .slice so n2 sc, .pointer none]) (by rfl) ?_; intro gx wx hsx); have z0 := HC.out _ _ _ hsx))
  ((try simp only [Exit.inBlock, Exit.then]); refine bodyPost_ret (results_tmp4 rfl _ _ _) rfl ?_)
  exact OnePost.bad 4 (by simp) HO.out hsx.bare
set_option maxRecDepth 200000 in
/-- An object of a pack. -/
theorem rone_any (w : World) (vb vo vw vi vso : Value) (b : List UInt8) (P : Nat) (l : List (List UInt8)) (lie : Bool) (pre : List (List UInt8 × Nat)) (pl : List Nat) (hb : Sl w 1 vb b.length (bs b)) (hbl : b.length ≤ 140737488355328)
    (hi : Sl w 1 vi l.length (ss (idsT l lie))) (hs : LL w vso l) (hz : ∀ x ∈ l, x.length ≤ 140737488351232) (ho : LL w vo (pre.map Prod.fst)) (hw : Sl w 3 vw pre.length (rws pre pl)) (hpl : pl.length = pre.length) (hm : pre.length ≤ 512) (hpz : ∀ p ∈ pre, p.1.length ≤ 20000 ∧ p.2 ≤ 8) :
    Calls Tryz.prog 51 #[vb, .int .i64 (P : Int), vo, vw, stv vi vso] w (OnePost w b (rdObj (srcF l lie) pre (b.drop P))) := by
  obtain ⟨vs, _, hs2, _⟩ := id hs
  by_cases hlt : P < b.length
  · obtain ⟨k, r, hd⟩ : ∃ k r, b.drop P = k :: r := ⟨_, _, List.drop_eq_getElem_cons hlt⟩
    by_cases k0 : k = 0
    · subst k0; exact rone_whole w vb vo vw vi vso b r P _ pre hb hlt hd hbl hi hs2
    · by_cases k1 : k = 1
      · subst k1; exact rone_back w vb vo vw vi vso b r P _ pre pl hb hlt hd hbl ho hw hpl hm hpz hi hs2
      · by_cases k2 : k = 2
        · subst k2; exact rone_far w vb vo vw vi vso b r P l lie pre hb hlt hd hbl hi hs hz
        · exact rone_other w vb vo vw vi vso b r k P _ pre hb hlt hd k0 k1 k2 hi hs2
  · exact rone_end w vb vo vw vi vso b P _ pre hb (by omega) hi hs2
end Go.Proofs.YtlfdnlomlbbicaaGreatDoor

namespace Go.Mx
open Go Go.RowKit
theorem drop_sfx {b s : List UInt8} {j : Nat} (h : s = b.drop j) : b.drop (b.length - s.length) = s := by
  subst h
  rw [List.length_drop]
  by_cases hj : j ≤ b.length
  · rw [show b.length - (b.length - j) = j by omega]
  · rw [show b.length - (b.length - j) = b.length by omega, List.drop_length, List.drop_of_length_le (by omega)]
theorem rdDel_suf (by_ : List UInt8) (d : Nat) (r : List UInt8) : ∃ k, (rdDel by_ d r).2.2.2 = r.drop k := by
  have up : ∀ {s : List UInt8} {n j : Nat}, s = (r.drop n).drop j → ∃ m, s = r.drop m := fun {s n j} h => ⟨n + j, by rw [h, List.drop_drop]⟩
  unfold rdDel gBad
  repeat' split
  all_goals first | exact up rfl | exact ⟨r.length, by simp⟩
theorem rdOne_suf (f : ByteArray → Option (List UInt8)) (pre : List (List UInt8 × Nat)) (l : List UInt8) : ∃ k, (rdOne f pre l).2.2.2 = l.drop k := by
  cases l with
  | nil => exact ⟨0, rfl⟩
  | cons k r =>
    have up : ∀ {s : List UInt8} {n j : Nat}, s = (r.drop n).drop j → ∃ m, s = (k :: r).drop m := fun {s n j} h => ⟨n + j + 1, by rw [h, List.drop_drop, List.drop_succ_cons]⟩
    rw [rdOne]
    split
    · unfold rdWhole gBad
      repeat' split
      all_goals first | exact up rfl | exact ⟨(k :: r).length, by simp⟩
    · split
      · unfold rdBack gBad
        repeat' split
        all_goals first | (obtain ⟨m, hm⟩ := rdDel_suf (pre.getD (pre.length - nmN r) ([], 0)).1 ((pre.getD (pre.length - nmN r) ([], 0)).2 + 1) (r.drop (nmJ r)); exact up hm) | exact ⟨(k :: r).length, by simp⟩
      · split
        · unfold rdFar gBad
          repeat' split
          all_goals first | (rename_i x _ _; obtain ⟨m, hm⟩ := rdDel_suf x 1 (r.drop 32); exact up hm) | exact ⟨(k :: r).length, by simp⟩
        · exact ⟨(k :: r).length, by simp [gBad]⟩
theorem rdObj_suf (f : ByteArray → Option (List UInt8)) (pre : List (List UInt8 × Nat)) (l : List UInt8) : ∃ k, (rdObj f pre l).2.2.2 = l.drop k := by
  unfold rdObj
  repeat' split
  all_goals first | exact rdOne_suf f pre l | exact ⟨l.length, by simp [gBad]⟩
theorem rdObj_le (f : ByteArray → Option (List UInt8)) (pre : List (List UInt8 × Nat)) (l : List UInt8) : (rdObj f pre l).2.1.length ≤ 20000 := by
  unfold rdObj
  repeat' split
  all_goals first | exact rdOne_le f pre l | exact Nat.zero_le _
theorem rdDel_dep (by_ : List UInt8) (d : Nat) (hd : d ≤ 8) (r : List UInt8) : (rdDel by_ d r).2.2.1 ≤ 8 := by
  unfold rdDel gBad
  repeat' split
  all_goals first | exact Nat.zero_le _ | exact hd
theorem rdOne_dep (f : ByteArray → Option (List UInt8)) (pre : List (List UInt8 × Nat)) (l : List UInt8) : (rdOne f pre l).2.2.1 ≤ 8 := by
  cases l with
  | nil => exact Nat.zero_le _
  | cons k r =>
    rw [rdOne]
    split
    · unfold rdWhole gBad
      repeat' split
      all_goals exact Nat.zero_le _
    · split
      · unfold rdBack gBad
        repeat' split
        all_goals first | exact Nat.zero_le _ | exact rdDel_dep _ _ (by omega) _
      · split
        · unfold rdFar gBad
          repeat' split
          all_goals first | exact Nat.zero_le _ | exact rdDel_dep _ _ (by omega) _
        · exact Nat.zero_le _
theorem rdObj_dep (f : ByteArray → Option (List UInt8)) (pre : List (List UInt8 × Nat)) (l : List UInt8) : (rdObj f pre l).2.2.1 ≤ 8 := by
  unfold rdObj
  repeat' split
  all_goals first | exact rdOne_dep f pre l | exact Nat.zero_le _
end Go.Mx
namespace Go.Proofs.YtlfdnlomlbbicaaGreatDoor
open Go.RowKit Go.Mx
abbrev w9row (vw : Value) (n : Nat) (cs : List Value) : Row := ⟨vw, 50, 3, n, cs⟩
theorem Tryz.elRow9 : El Tryz.prog 45 50 3 32 := El.mk' Tryz.underlying45 (z := .agg #[.string ByteArray.empty, .int .i64 0, .int .i64 0]) (by kernel_rfl) rfl (by omega)
def RParPost (w : World) (X : Int × List (List UInt8 × Nat) × List Nat) (e : Ending) (w' : World) : Prop :=
  ∃ vo vw, e = .returned (.tuple #[vo, vw, .int .i64 (X.2.1.length : Int), .int .i64 X.1]) ∧ St w w' [] [] ∧
    ((X.1 = 0 ∧ X.2.2.length = X.2.1.length ∧ LL w' vo (X.2.1.map Prod.fst) ∧ Sl w' 3 vw X.2.1.length (rws X.2.1 X.2.2)) ∨ (X.1 ≠ 0 ∧ vo = .slice none 0 0 ∧ vw = .slice none 0 0))
theorem RParPost.bad {w w' : World} {X : Int × List (List UInt8 × Nat) × List Nat} (A : Int) (n : Nat) (hA : A ≠ 0) (h1 : X.1 = A) (h2 : X.2.1.length = n) (hs : St w w' [] []) :
    RParPost w X (.returned (.tuple #[.slice none 0 0, .slice none 0 0, .int .i64 (n : Int), .int .i64 A])) w' := by
  subst h1 h2
  exact ⟨_, _, rfl, hs, .inr ⟨hA, rfl, rfl⟩⟩
set_option maxRecDepth 200000 in
set_option maxHeartbeats 4000000 in
theorem rparse_any (w : World) (v : Value) (b : List UInt8) (vi vso : Value) (l : List (List UInt8)) (lie : Bool) (hv : Sl w 1 v b.length (bs b)) (hb : b.length ≤ 140737488351232)
    (hi : Sl w 1 vi l.length (ss (idsT l lie))) (hso : LL w vso l) (hz : ∀ x ∈ l, x.length ≤ 140737488351232) :
    Calls Tryz.prog 30 #[v, stv vi vso] w (RParPost w (rdPack (srcF l lie) b)) := by
  obtain ⟨X, hX⟩ : ∃ X, rdPack (srcF l lie) b = X := ⟨_, rfl⟩
  rw [hX]
  unfold rdPack at hX
  have HV := Mx.hid hv
  have HI := Mx.hid hi
  have HSO := Mx.hid hso
  have HZ := Mx.hid hz
  obtain ⟨bo, bc, rfl, _⟩ := id hv
  obtain ⟨io, ic, rfl, _⟩ := id hi
  obtain ⟨so, sc, _, _, _, rfl, _⟩ := hso.at
  clear hi hso hz
  by_cases hsh : b.length < 36
  · rw [if_pos hsh] at hX
    have d1 : decide ((b.length : Int) < 36) = true := decide_eq_true (by omega)
    have HX := Mx.hid hX.symm
    clear hv hX hsh
    go_enter Tryz.func30, Tryz.ntmps30
    go_wp2_with (((with_reducible show wpList _ _ _ _ _ _); refine wpl_box rfl 40 _ rfl (St.refl w) ([.slice io l.length ic, .slice so l.length sc, .pointer none]) (by rfl) ?_; intro gx wx hsx))
    ((try simp only [Exit.inBlock, Exit.then]); refine bodyPost_ret (results_tmp4 rfl _ _ _) rfl ?_)
    exact RParPost.bad 2 0 (by simp) (by rw [HX.out]) (by rw [HX.out]; rfl) hsx.bare
  · rw [if_neg hsh] at hX
    have d1 : decide ((b.length : Int) < 36) = false := decide_eq_false (by omega)
    obtain ⟨n, hn⟩ : ∃ n, b.length - 32 = n := ⟨_, rfl⟩
    rw [hn] at hX
    have hnI : (b.length : Int) - 32 = (n : Int) := by omega
    have hwn : IntKind.i64.wrap ((b.length : Int) - 32) = (n : Int) := (IntWalk.i64_in _ (by omega)).trans hnI
    have hwn2 : IntKind.i64.wrap (n : Int) = (n : Int) := IntWalk.i64_in _ (by omega)
    have hnl : n ≤ b.length := by omega
    have hn4 : 4 ≤ n := by omega
    obtain ⟨x, p1, q1⟩ := hv.cutRun Tryz.elU8 none (some (.int .i64 (n : Int))) 0 n (.inl ⟨rfl, rfl⟩) (.inr ⟨.i64, rfl⟩) (Nat.zero_le _) hnl
    obtain ⟨y, p2, q2⟩ := hv.cutRun Tryz.elU8 (some (.int .i64 (n : Int))) none n b.length (.inr ⟨.i64, rfl⟩) (.inl ⟨rfl, rfl⟩) hnl (Nat.le_refl _)
    have hx := Sl.cutB (q1 _ hv) hnl (Nat.zero_le _)
    have hy := Sl.cutB (q2 _ hv) (Nat.le_refl _) hnl
    rw [List.take_length] at hy
    rw [List.drop_zero] at hx
    have htl : (b.take n).length = n := by rw [List.length_take]; omega
    have HX2 := Mx.hid hx
    have HY2 := Mx.hid hy
    generalize hbody : b.take n = body at *
    generalize b.drop n = tl at *
    have hbl : body.length ≤ 140737488351232 := by omega
    have hb4 : 4 ≤ body.length := by omega
    have HSL := sha_len body
    obtain ⟨z, p3, q3⟩ := hx.cutRun Tryz.elU8 none (some (.int .i64 3)) 0 3 (.inl ⟨rfl, rfl⟩) (.inr ⟨.i64, rfl⟩) (Nat.zero_le _) (by omega)
    have hz3 := Sl.cutB (q3 _ hx) (by omega) (Nat.zero_le _)
    rw [List.drop_zero] at hz3
    have HZ3 := Mx.hid hz3
    obtain ⟨xo, xc, rfl, _⟩ := id hx
    clear hv hsh q1 q2 q3 hx hy hz3 hn hbody htl
    go_enter Tryz.func30, Tryz.ntmps30
    go_wp2_with (((with_reducible show wpList _ _ _ _ _ _); refine wpl_box rfl 40 _ rfl (St.refl w) ([.slice io l.length ic, .slice so l.length sc, .pointer none]) (by rfl) ?_; intro gx wx hsx))
    have HSX := Mx.hid hsx
    clear hsx
    (refine wp_region_S (8) (fun _ => True) (by kernel_rfl) ?_ (fun hHeld => ?_); (focus ((try dsimp only); (first | done | trivial))))
    (refine wpAnyS_takeW (i := 0) (v := ?_) rfl (by kernel_rfl) (by kernel_rfl) (by kernel_rfl) (by kernel_rfl) (fun _ _ _ h => h) (Or.inl ⟨by first | rfl | (go_simp; done), ?_⟩) hHeld ?_; rotate_left 1; (focus (intro w' hSw; go_simp; (try with_reducible rfl))); (try simp only [Act.put, List.setIfInBounds_toArray, List.set_cons_zero, List.set_cons_succ]))
    (refine wpAnyS_takeW (i := 2) (v := ?_) rfl (by kernel_rfl) (by kernel_rfl) (by kernel_rfl) (by kernel_rfl) (fun _ _ _ h => h) (Or.inl ⟨by first | rfl | (go_simp; done), ?_⟩) hHeld ?_; rotate_left 1; (focus (intro w' hSw; go_simp; (try with_reducible rfl))); (try simp only [Act.put, List.setIfInBounds_toArray, List.set_cons_zero, List.set_cons_succ]))
    (refine wpAnyS_takeW (i := 3) (v := ?_) rfl (by kernel_rfl) (by kernel_rfl) (by kernel_rfl) (by kernel_rfl) (fun _ _ _ h => h) (Or.inl ⟨by first | rfl | (go_simp; done), ?_⟩) hHeld ?_; rotate_left 1; (focus (intro w' hSw; go_simp; (try with_reducible rfl))); (try simp only [Act.put, List.setIfInBounds_toArray, List.set_cons_zero, List.set_cons_succ]))
    (refine wpAnyS_takeW (i := 4) (v := ?_) rfl (by kernel_rfl) (by kernel_rfl) (by kernel_rfl) (by kernel_rfl) (fun _ _ _ h => h) (Or.inl ⟨by first | rfl | (go_simp; done), ?_⟩) hHeld ?_; rotate_left 1; (focus (intro w' hSw; go_simp; (try with_reducible rfl))); (try simp only [Act.put, List.setIfInBounds_toArray, List.set_cons_zero, List.set_cons_succ]))
    (refine wpAnyS_takeW (i := 5) (v := ?_) rfl (by kernel_rfl) (by kernel_rfl) (by kernel_rfl) (by kernel_rfl) (fun _ _ _ h => h) (Or.inl ⟨by first | rfl | (go_simp; done), ?_⟩) hHeld ?_; rotate_left 1; (focus (intro w' hSw; go_simp; (try with_reducible rfl))); (try simp only [Act.put, List.setIfInBounds_toArray, List.set_cons_zero, List.set_cons_succ]))
    (refine wpAnyS_takeW (i := 6) (v := ?_) rfl (by kernel_rfl) (by kernel_rfl) (by kernel_rfl) (by kernel_rfl) (fun _ _ _ h => h) (Or.inl ⟨by first | rfl | (go_simp; done), ?_⟩) hHeld ?_; rotate_left 1; (focus (intro w' hSw; go_simp; (try with_reducible rfl))); (try simp only [Act.put, List.setIfInBounds_toArray, List.set_cons_zero, List.set_cons_succ]))
    (refine wpAnyS_ready (rs := [1]) (by kernel_rfl) (by simp) ?_; refine AllS.consL rfl (fun K hK => ?_) AllS.nil)
    (go_simp; go_at_call 26; refine (rsum_any _ body _ (HSX.out.drew.old HX2.out) hbl).mono ?_; rintro e w' ⟨sv, rfl, hk⟩; go_wp2_with fail)
    have hs5 := HSX.out.drew.call0 hk.bare
    have hsum : Sl w' 1 sv (sha body).length (bs (sha body)) := by rw [HSL]; exact hk.sl0
    have HSUM := Mx.hid hsum
    (refine hK.out _ _ ?_ (fun hHeld => ?_); (focus ((try dsimp only); (first | done | trivial))); clear hK K; (try simp only [Act.put, List.setIfInBounds_toArray, List.set_cons_zero, List.set_cons_succ]))
    (refine wpAnyS_ready (rs := [7]) (by kernel_rfl) (by simp) ?_; refine AllS.consL rfl (fun K hK => ?_) AllS.nil)
    (go_simp; go_at_call 10; refine (bytes_any _ _ (sha body) tl _ HSUM.out (hs5.old HY2.out)).mono ?_; rintro e w' ⟨rfl, rfl⟩; go_wp2_with fail)
    (refine hK.out _ _ ?_ (fun hHeld => ?_); (focus ((try dsimp only); (first | done | trivial))); clear hK K; (try simp only [Act.put, List.setIfInBounds_toArray, List.set_cons_zero, List.set_cons_succ]))
    (refine wpAnyS_seq (by rfl) (by kernel_rfl) ?_; simp only [List.drop_succ_cons, List.drop_zero])
    clear hk hsum
    have HS5 := Mx.hid hs5
    by_cases heq : sha body = tl
    · rw [decide_eq_true heq]
      rw [if_neg (by simpa using heq)] at hX
      unfold rdBody at hX
      have ht := str_beq (body.take 3) [77, 80, 49]
      rw [str_toL [77, 80, 49]] at ht
      have hz3 := hs5.old HZ3.out
      clear heq hs5
      by_cases hmag : body.take 3 = [77, 80, 49]
      · rw [if_neg (by simpa using hmag)] at hX
        rw [decide_eq_true hmag] at ht
        clear hmag
        have HGET := Mx.hid (oget _ (.slice xo body.length xc) body 3 (HS5.out.old HX2.out) (by omega) (by omega))
        have hbad := fun (h : nmE (body.drop 3) ≠ 0) => (nm_bad h).1
        have hgood := fun (h : nmE (body.drop 3) = 0) => nm_good h
        generalize nmE (body.drop 3) = E at *
        generalize nmN (body.drop 3) = M at *
        generalize nmJ (body.drop 3) = J at *
        obtain ⟨P0, hP0⟩ : ∃ P0, 3 + J = P0 := ⟨_, rfl⟩
        have hdP : (body.drop 3).drop J = body.drop P0 := by rw [List.drop_drop, hP0]
        rw [hdP] at hX
        rw [hP0] at HGET
        clear hdP
        by_cases hE : E = 0
        · subst hE
          rw [if_neg (by simp)] at hX
          rw [if_pos rfl] at HGET
          have hP0l : P0 ≤ body.length := by have := (hgood rfl).2.1; rw [List.length_drop] at this; omega
          clear hbad hgood hP0
          by_cases hb5 : 512 < M
          · rw [if_pos hb5] at hX
            have d2 : decide ((512 : Int) < (M : Int)) = true := decide_eq_true (by omega)
            have HX := Mx.hid hX.symm
            clear hX hb5
            go_wp2_with (first | ((with_reducible show wpList _ _ _ _ _ _); refine wpl_b2s rfl 25 9 5 _ rfl Tryz.underlying25 Tryz.underlying5 Tryz.underlying9 (by exact hz3) ?_) | (go_at_call 50; refine HGET.out.mono ?_; rintro e w7 ⟨rfl, hk7⟩))
            ((try simp only [Exit.inBlock, Exit.then]); refine bodyPost_ret (results_tmp4 rfl _ _ _) rfl ?_)
            exact RParPost.bad 14 0 (by simp) (by rw [HX.out]) (by rw [HX.out]; rfl) (HS5.out.bare.call0 hk7)
          · rw [if_neg hb5] at hX
            have d2 : decide ((512 : Int) < (M : Int)) = false := decide_eq_false (by omega)
            have HX := Mx.hid hX
            have hM5 : M ≤ 512 := by omega
            clear hX hb5
            go_wp2_with (first | ((with_reducible show wpList _ _ _ _ _ _); refine wpl_b2s rfl 25 9 5 _ rfl Tryz.underlying25 Tryz.underlying5 Tryz.underlying9 (by exact hz3) ?_) | (go_at_call 50; refine HGET.out.mono ?_; rintro e w7 ⟨rfl, hk7⟩))
            have HS8 : Hid (St w w7 [orow (.slice none 0 0) 0 [], w9row (.slice none 0 0) 0 (rws [] []), srow gx (.slice io l.length ic) (.slice so l.length sc)] []) := Mx.hid (((HS5.out.call0 hk7).addNil 50 3).addNil 25 1)
            clear hk7 hz3
            go_loopw [10, 12, 13, 14] (fun ap vo vw ai wr => ∃ (i P : Nat) (pre : List (List UInt8 × Nat)) (pl : List Nat) (us : List Value), ai = .int .i64 i ∧ ap = .int .i64 P ∧ i ≤ M ∧ P ≤ body.length ∧ Hid (pre.length = i) ∧ Hid (pl.length = i) ∧ Hid (us.length = i) ∧ Hid (∀ p ∈ pre, p.1.length ≤ 20000 ∧ p.2 ≤ 8) ∧ Hid (rdAll (srcF l lie) body.length (M - i) pre pl (body.drop P) = X) ∧
                St w wr [orow vo pre.length us, w9row vw pre.length (rws pre pl), srow gx (.slice io l.length ic) (.slice so l.length sc)] (rds us (pre.map Prod.fst))) (fun _ _ _ ai _ => M - (intOf ai).toNat)
            case atStart => exact ⟨0, P0, [], [], [], rfl, rfl, by omega, hP0l, rfl, rfl, rfl, by simp [Hid], Mx.hid HX.out, HS8.out⟩
            case round =>
              clear HS8 HX
              obtain ⟨i, P, pre, pl, us, rfl, rfl, hi, hPl, HP1, HP2, HP3, HPZ, HX, hs⟩ := hrel
              by_cases hlt : i < M
              · have hMi : M - i = (M - (i + 1)) + 1 := by omega
                rw [hMi] at HX
                have hX := HX.out
                rw [rdAll] at hX
                have hi5 : pre.length ≤ 512 := by rw [HP1.out]; omega
                have hone := rone_any wr (.slice xo body.length xc) u12 u13 (.slice io l.length ic) (.slice so l.length sc) body P l lie pre pl (hs.old HX2.out) (by omega) (hs.old HI.out) (LL.old hs HSO.out) HZ.out ⟨us, by rw [List.length_map, HP3.out, HP1.out], by rw [List.length_map]; exact hs.sl0, fun q hq => hs.rd q hq⟩ hs.sl1 (by rw [HP2.out, HP1.out]) hi5 HPZ.out
                have hsuf := rdObj_suf (srcF l lie) pre (body.drop P)
                have hxl := And.intro (rdObj_le (srcF l lie) pre (body.drop P)) (rdObj_dep (srcF l lie) pre (body.drop P))
                obtain ⟨oo, oc, rfl, _⟩ := id hs.sl0
                obtain ⟨wo, wc, rfl, _⟩ := id hs.sl1
                have hii : (i : Int) < (M : Int) := by omega
                have HONE := Mx.hid hone
                clear hMi hone HX
                obtain ⟨Pl, hPl2⟩ : ∃ Pl, body.length - (body.drop P).length = Pl := ⟨_, rfl⟩
                have hPP : Pl = P := by rw [List.length_drop] at hPl2; omega
                rw [hPl2, hPP] at hX
                clear hPl2 hPP
                generalize rdObj (srcF l lie) pre (body.drop P) = G at *
                obtain ⟨er, x, dp, rt⟩ := G
                simp only at hX hsuf hxl
                obtain ⟨kk, hkk⟩ := hsuf
                have hrt : rt = body.drop (P + kk) := by rw [hkk, List.drop_drop]
                have hdr := drop_sfx hrt
                have hX' := Mx.hid hX
                clear hX hkk hrt
                go_wp2_with (first | ((with_reducible show wpList _ _ _ _ _ _); refine wpl_want rfl ?_) | ((with_reducible show wpList _ _ _ _ _ _); refine wpl_loadA rfl 40 _ rfl Tryz.aSrc (gx) (0) rfl ([.slice io l.length ic, .slice so l.length sc, .pointer none]) rfl (fun j u h => by rw [Nat.zero_add]; exact hs.rcell (List.mem_cons_of_mem _ (List.mem_cons_of_mem _ (List.mem_cons_self ..))) h) ?_))
                refine HONE.out.mono ?_
                intro e w8 hp
                unfold OnePost at hp
                rcases hp with ⟨h0, vx, rfl, hk8⟩ | ⟨h0, rfl, hk8⟩
                · simp only at h0
                  subst h0
                  have hX := hX'.out
                  rw [if_neg (by simp)] at hX
                  have HX3 := Mx.hid hX
                  simp only at hk8
                  obtain ⟨vo', vc', rfl, _⟩ := id hk8.sl0
                  have hs8 := (hs.call1 hk8).freeze
                  dsimp only at hs8
                  clear hX hX' hk8 hs HONE
                  have HDR := Mx.hid hdr
                  have hPn : body.length - rt.length ≤ body.length := by omega
                  clear hdr
                  generalize body.length - rt.length = Pn at *
                  go_wp2_with (first | (at_builtin; refine wpl_app rfl _ _ 22 rfl Tryz.elBs (hs8.alloc _) rfl (by exact Sl.one _ _ _) (by intro u hu; simp at hu; subst hu; rfl) (by omega) ?_; intro v9 w9 hs9 _) | (go_at_call 28; refine (rid_any _ x _ hs9.q0 (by omega)).mono ?_; rintro e wA ⟨rfl, hkA⟩; have hsA := (hs9.call0 hkA).swap) | (at_builtin; refine wpl_app rfl _ _ 45 rfl Tryz.elRow9 (hsA.alloc _) rfl (by exact ((St.refl _).made #[.string (str (hexL (sha x))), .int .i64 (P : Int), .int .i64 (dp : Int)] 50 3 1 rfl (by simp [maxLen])).sl0) (by intro u hu; simp at hu; rcases hu with rfl | rfl | rfl <;> rfl) (by omega) ?_; intro vB wB hsB _))
                  have hlen : (pre ++ [(x, dp)]).length = pre.length + 1 := by simp
                  have hsC : St w wB [orow v9 (pre ++ [(x, dp)]).length (us ++ [.slice vo' x.length vc']), w9row vB (pre ++ [(x, dp)]).length (rws (pre ++ [(x, dp)]) (pl ++ [P])), srow gx (.slice io l.length ic) (.slice so l.length sc)] (rds (us ++ [.slice vo' x.length vc']) ((pre ++ [(x, dp)]).map Prod.fst)) := by
                    rw [rws_snoc _ _ _ _ _ (by rw [HP2.out, HP1.out]), hlen, List.map_append, List.map_cons, List.map_nil, rds_snoc _ _ _ _ (by rw [List.length_map, HP3.out, HP1.out])]
                    exact hsB.swap.sub (List.Sublist.refl _) (fun q hq => by
                      rcases List.mem_append.1 hq with h | h
                      · exact List.mem_cons_of_mem _ h
                      · rw [List.mem_singleton.1 h]; exact List.mem_cons_self ..)
                  refine ⟨⟨i + 1, Pn, pre ++ [(x, dp)], pl ++ [P], us ++ [.slice vo' x.length vc'], by go_num, rfl, by omega, hPn, Mx.hid (by rw [hlen, HP1.out]), Mx.hid (by rw [List.length_append, HP2.out]; rfl), Mx.hid (by rw [List.length_append, HP3.out]; rfl), Mx.hid (fun p hp => by
                    rcases List.mem_append.1 hp with h | h
                    · exact HPZ.out p h
                    · rw [List.mem_singleton.1 h]; exact hxl), Mx.hid (by rw [HDR.out]; exact HX3.out), hsC⟩, by simp [intOf]; omega⟩
                · simp only at h0
                  have he' : (er != 0) = true := by simpa using h0
                  have hX := hX'.out
                  rw [if_pos h0] at hX
                  have HX3 := Mx.hid hX.symm
                  have HE := Mx.hid h0
                  clear hX h0
                  go_wp2_with (first | ((with_reducible show wpList _ _ _ _ _ _); refine wpl_want rfl ?_))
                  ((try simp only [Exit.inBlock, Exit.then]); refine bodyPost_ret (results_tmp4 rfl _ _ _) rfl ?_)
                  exact RParPost.bad er i HE.out (by rw [HX3.out]) (by rw [HX3.out]; exact HP1.out) (hs.bare.call0 hk8)
              · obtain rfl : i = M := by omega
                rw [Nat.sub_self] at HX
                have hX := HX.out
                rw [rdAll] at hX
                by_cases hz0 : P < body.length
                · have hne : ¬ body.drop P = [] := fun h => by have := congrArg List.length h; rw [List.length_drop, List.length_nil] at this; omega
                  rw [if_neg hne] at hX
                  have HX3 := Mx.hid hX.symm
                  have d3 : decide (P < body.length) = true := decide_eq_true hz0
                  clear hX hne hz0
                  go_wp2_with (first | ((with_reducible show wpList _ _ _ _ _ _); refine wpl_want rfl ?_))
                  ((try simp only [Exit.inBlock, Exit.then]); refine bodyPost_ret (results_tmp4 rfl _ _ _) rfl ?_)
                  exact RParPost.bad 3 i (by simp) (by rw [HX3.out]) (by rw [HX3.out]; exact HP1.out) hs.bare
                · have hne : body.drop P = [] := List.drop_of_length_le (by omega)
                  rw [if_pos hne] at hX
                  have HX3 := Mx.hid hX.symm
                  have d3 : decide (P < body.length) = false := decide_eq_false hz0
                  clear hX hne hz0
                  go_wp2_with (first | ((with_reducible show wpList _ _ _ _ _ _); refine wpl_want rfl ?_))
                  ((try simp only [Exit.inBlock, Exit.then]); refine bodyPost_ret (results_tmp4 rfl _ _ _) rfl ?_)
                  have hX3 := HX3.out
                  subst hX3
                  have hP1 := HP1.out
                  subst hP1
                  exact ⟨_, _, rfl, hs.bare, .inl ⟨rfl, HP2.out, ⟨us, by rw [List.length_map, HP3.out], by rw [List.length_map]; exact hs.sl0, fun q hq => hs.rd q hq⟩, hs.sl1⟩⟩
        · have hM := hbad hE
          rw [if_pos hE] at hX
          rw [if_neg hE] at HGET
          have HX := Mx.hid hX.symm
          have HE := Mx.hid hE
          have he' : (E != 0) = true := by simpa using hE
          clear hX hE hbad hgood
          go_wp2_with (first | ((with_reducible show wpList _ _ _ _ _ _); refine wpl_b2s rfl 25 9 5 _ rfl Tryz.underlying25 Tryz.underlying5 Tryz.underlying9 (by exact hz3) ?_) | (go_at_call 50; refine HGET.out.mono ?_; rintro e w7 ⟨rfl, hk7⟩))
          ((try simp only [Exit.inBlock, Exit.then]); refine bodyPost_ret (results_tmp4 rfl _ _ _) rfl ?_)
          exact RParPost.bad E 0 HE.out (by rw [HX.out]) (by rw [HX.out]; rfl) (HS5.out.bare.call0 hk7)
      · rw [if_pos hmag] at hX
        rw [decide_eq_false hmag] at ht
        have HX := Mx.hid hX.symm
        clear hX hmag
        go_wp2_with (first | ((with_reducible show wpList _ _ _ _ _ _); refine wpl_b2s rfl 25 9 5 _ rfl Tryz.underlying25 Tryz.underlying5 Tryz.underlying9 (by exact hz3) ?_))
        ((try simp only [Exit.inBlock, Exit.then]); refine bodyPost_ret (results_tmp4 rfl _ _ _) rfl ?_)
        exact RParPost.bad 4 0 (by simp) (by rw [HX.out]) (by rw [HX.out]; rfl) HS5.out.bare
    · rw [decide_eq_false heq]
      rw [if_pos heq] at hX
      have HX := Mx.hid hX.symm
      clear hX heq hs5
      go_wp2_with fail
      ((try simp only [Exit.inBlock, Exit.then]); refine bodyPost_ret (results_tmp4 rfl _ _ _) rfl ?_)
      exact RParPost.bad 5 0 (by simp) (by rw [HX.out]) (by rw [HX.out]; rfl) HS5.out.bare
end Go.Proofs.YtlfdnlomlbbicaaGreatDoor
