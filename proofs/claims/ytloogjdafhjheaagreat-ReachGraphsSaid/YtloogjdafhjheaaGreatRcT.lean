/- marlaw10's Source and what it hands back. -/
import Derived.Test.YtloogjdafhjheaaGreatJ5RVal
import Derived.Deep.DeepCutAuto
namespace Go.Proofs.YtloogjdafhjheaaGreat
open Go.RowKit Go.Mx

def SourcePost (l : List (List UInt8)) (lie : Bool) (w : World) (e : Ending) (w' : World) : Prop :=
  ∃ g2 g3 g5, e = .returned (.func (Fn.func 21) #[] #[.pointer (some ⟨g2, 0, none⟩), .pointer (some ⟨g3, 0, none⟩), .pointer (some ⟨g5, 0, none⟩)]) ∧ St w w' [] [] ∧ SM w' g2 g3 g5 l lie
set_option maxRecDepth 100000 in
set_option maxHeartbeats 2000000 in
theorem source_any (lv : Value) (l : List (List UInt8)) (lie : Bool) (w : World) (hv : LL w lv l) (hz : ∀ x ∈ l, x.length ≤ 140737488351232) (hl : l.length ≤ 1000000) :
    Calls Tryz.prog 7 #[lv, .bool lie] w (SourcePost l lie w) := by
  have HV := Mx.hid hv
  obtain ⟨ao, cap, blk, off, us, rfl, h1, h2, hc, hs⟩ := hv.at
  have HC := Mx.hid (fun k hk => (⟨(hc k hk).1, (hc k hk).2⟩ : ao = some ⟨blk, off, none⟩ ∧ w.cell? ⟨blk, off + k, none⟩ = some (us k)))
  have HS := Mx.hid hs
  have HZ := Mx.hid (fun (k : Nat) (hk : k < l.length) => hz l[k] (List.getElem_mem hk))
  clear hv hc hs hz
  go_enter Tryz.func7, Tryz.ntmps7
  go_upto_region 1 with (first | ((with_reducible show wpList _ _ _ _ _ _); refine wpl_box rfl 4 _ rfl hsx ([.bool lie]) (by rfl) ?_; intro gy wy hsy) | ((with_reducible show wpList _ _ _ _ _ _); refine wpl_box rfl 22 _ rfl (St.refl w) ([.slice ao l.length cap]) (by rfl) ?_; intro gx wx hsx))
  have hz := hsy.madeAt #[.slice none 0 0] 23 1 1 wy.heap.size rfl (by simp [maxLen]) rfl
  have hz2 : St w (wy.alloc (.cells #[.slice none 0 0] 23)) [⟨.slice none 0 0, 9, 1, 0, []⟩, ⟨.slice (some ⟨wy.heap.size, 0, none⟩) 1 1, 23, 1, 1, [.slice none 0 0]⟩, ⟨.slice (some ⟨gy, 0, none⟩) 1 1, 4, 1, 1, [.bool lie]⟩, ⟨.slice (some ⟨gx, 0, none⟩) 1 1, 22, 1, 1, [.slice ao l.length cap]⟩] [] := hz.addNil _ _
  clear hz hsx hsy
  go_wp2_with fail
  generalize wy.alloc (.cells #[.slice none 0 0] 23) = wz at hz2 ⊢
  generalize wy.heap.size = gz at hz2 ⊢
  go_loopw [6] (fun y wr => ∃ (i : Nat) (iv : Value), y = .int .i64 i ∧ i ≤ l.length ∧ St w wr [⟨iv, 9, 1, i, ss ((ids1 l).take i)⟩, ⟨.slice (some ⟨gz, 0, none⟩) 1 1, 23, 1, 1, [iv]⟩, ⟨.slice (some ⟨gy, 0, none⟩) 1 1, 4, 1, 1, [.bool lie]⟩, ⟨.slice (some ⟨gx, 0, none⟩) 1 1, 22, 1, 1, [.slice ao l.length cap]⟩] []) (fun y _ => l.length - (intOf y).toNat)
  case atStart => exact ⟨0, _, rfl, by omega, hz2⟩
  case round =>
    clear hz2
    obtain ⟨i, iv, rfl, hi, hs⟩ := hrel
    have c9 := hs.rcell (j := 0) (List.mem_cons_of_mem _ (List.mem_cons_of_mem _ (List.mem_cons_of_mem _ (List.mem_cons_self ..)))) rfl
    by_cases hlt : i < l.length
    · obtain ⟨rfl, c0⟩ := HC.out i hlt
      have hx := HS.out i hlt
      have HX := Mx.hid (fun (wx : World) (R : List Row) (Q : List Rd) (h : St w wx R Q) => rid_any (us i) l[i] wx (h.old hx) (HZ.out i hlt))
      have HU := Mx.hid (fun (wx : World) (R : List Row) (Q : List Rd) (h : St w wx R Q) => h.keep c0)
      have HT := Mx.hid (show ss ((ids1 l).take (i + 1)) = ss ((ids1 l).take i) ++ [.string (idB l[i])] by
        rw [List.take_succ_eq_append_getElem (by simp [ids1]; exact hlt), ss_app]
        simp [ids1, ss])
      have hii : (i : Int) < (l.length : Int) := by omega
      have HID : Hid (idB l[i] = str (hexL (sha l[i]))) := rfl
      clear hx c0
      generalize hid : idB l[i] = idi at *
      generalize us i = ui at *
      go_wp2_with fail
      (refine wp_region_S (8) (fun W' => (W'.cell? ⟨gz, 0, none⟩ = some iv ∧ W'.cell? ⟨gx, 0, none⟩ = some (.slice (some ⟨blk, off, none⟩) l.length cap)) ∧ W'.cell? ⟨blk, off + i, none⟩ = some ui) (by kernel_rfl) ?_ (fun hHeld => ?_); (focus ((try dsimp only); exact ⟨⟨hs.drew.rcell (j := 0) (List.mem_cons_of_mem _ (List.mem_cons_self ..)) rfl, hs.drew.rcell (j := 0) (List.mem_cons_of_mem _ (List.mem_cons_of_mem _ (List.mem_cons_of_mem _ (List.mem_cons_self ..)))) rfl⟩, HU.out _ _ _ hs.drew⟩)))
      (refine wpAnyS_takeL (i := 0) (v := ?_) rfl (by kernel_rfl) (by kernel_rfl) (by kernel_rfl) (by kernel_rfl) (by kernel_rfl) (by kernel_rfl) (fun _ _ _ h => h) (Or.inl ⟨by rfl, ?_⟩) hHeld ?_; rotate_left 1; (focus (intro w' hSw; (try dsimp only at hSw); go_simp; (try with_reducible rfl))); (try simp only [Act.put, List.setIfInBounds_toArray, List.set_cons_zero, List.set_cons_succ]))
      (refine wpAnyS_takeL (i := 1) (v := ?_) rfl (by kernel_rfl) (by kernel_rfl) (by kernel_rfl) (by kernel_rfl) (by kernel_rfl) (by kernel_rfl) (fun _ _ _ h => h) (Or.inl ⟨by rfl, ?_⟩) hHeld ?_; rotate_left 1; (focus (intro w' hSw; (try dsimp only at hSw); go_simp; (try with_reducible rfl))); (try simp only [Act.put, List.setIfInBounds_toArray, List.set_cons_zero, List.set_cons_succ]))
      (refine wpAnyS_takeL (i := 2) (v := ?_) rfl (by kernel_rfl) (by kernel_rfl) (by kernel_rfl) (by kernel_rfl) (by kernel_rfl) (by kernel_rfl) (fun _ _ _ h => h) (Or.inl ⟨by rfl, ?_⟩) hHeld ?_; rotate_left 1; (focus (intro w' hSw; (try dsimp only at hSw); go_simp; (try with_reducible rfl))); (try simp only [Act.put, List.setIfInBounds_toArray, List.set_cons_zero, List.set_cons_succ]))
      (refine wpAnyS_takeL (i := 3) (v := ?_) rfl (by kernel_rfl) (by kernel_rfl) (by kernel_rfl) (by kernel_rfl) (by kernel_rfl) (by kernel_rfl) (fun _ _ _ h => h) (Or.inl ⟨by rfl, ?_⟩) hHeld ?_; rotate_left 1; (focus (intro w' hSw; (try dsimp only at hSw); go_simp; (try with_reducible rfl))); (try simp only [Act.put, List.setIfInBounds_toArray, List.set_cons_zero, List.set_cons_succ]))
      (refine wpAnyS_takeL (i := 4) (v := ?_) rfl (by kernel_rfl) (by kernel_rfl) (by kernel_rfl) (by kernel_rfl) (by kernel_rfl) (by kernel_rfl) (fun _ _ _ h => h) (Or.inl ⟨by rfl, ?_⟩) hHeld ?_; rotate_left 1; (focus (intro w' hSw; (try dsimp only at hSw); go_simp; (try with_reducible rfl))); (try simp only [Act.put, List.setIfInBounds_toArray, List.set_cons_zero, List.set_cons_succ]))
      (refine wpAnyS_ready (rs := [5]) (by kernel_rfl) (by simp) ?_; refine AllS.consL rfl (fun K hK => ?_) AllS.nil)
      (go_simp; go_at_call 19; refine (HX.out _ _ _ hs.drew).mono ?_; rintro e w' ⟨rfl, hk⟩; go_wp2_with fail)
      have hs1 := hs.drew.call0 hk
      (refine hK.out _ _ ?_ (fun hHeld => ?_); (focus ((try dsimp only); exact ⟨⟨hs1.rcell (j := 0) (List.mem_cons_of_mem _ (List.mem_cons_self ..)) rfl, hs1.rcell (j := 0) (List.mem_cons_of_mem _ (List.mem_cons_of_mem _ (List.mem_cons_of_mem _ (List.mem_cons_self ..)))) rfl⟩, HU.out _ _ _ hs1⟩)); clear hK K; (try simp only [Act.put, List.setIfInBounds_toArray, List.set_cons_zero, List.set_cons_succ]))
      (refine wpAnyS_ready (rs := [6]) (by kernel_rfl) (by simp) ?_; refine AllS.consL rfl (fun K hK => ?_) AllS.nil)
      go_simp
      (refine hK.out _ _ ?_ (fun hHeld => ?_); (focus ((try dsimp only); exact ⟨⟨(hs1.alloc _).rcell (j := 0) (List.mem_cons_of_mem _ (List.mem_cons_self ..)) rfl, (hs1.alloc _).rcell (j := 0) (List.mem_cons_of_mem _ (List.mem_cons_of_mem _ (List.mem_cons_of_mem _ (List.mem_cons_self ..)))) rfl⟩, HU.out _ _ _ (hs1.alloc _)⟩)); clear hK K; (try simp only [Act.put, List.setIfInBounds_toArray, List.set_cons_zero, List.set_cons_succ]))
      (refine wpAnyS_ready (rs := [7]) (by kernel_rfl) (by simp) ?_; refine AllS.consL rfl (fun K hK => ?_) AllS.nil)
      refine step_app rfl _ _ 23 rfl Tryz.elStr (by exact hs1.alloc _) rfl (by exact Sl.one _ _ _) (by intro u hu; simp at hu; subst hu; rfl) (by omega) ?_
      intro v8 w8 hs8 _
      obtain ⟨vo, vc, rfl, _⟩ := id hs8.sl0
      (refine hK.out _ _ ?_ (fun hHeld => ?_); (focus ((try dsimp only); exact ⟨⟨hs8.rcell (j := 0) (List.mem_cons_of_mem _ (List.mem_cons_self ..)) rfl, hs8.rcell (j := 0) (List.mem_cons_of_mem _ (List.mem_cons_of_mem _ (List.mem_cons_of_mem _ (List.mem_cons_self ..)))) rfl⟩, HU.out _ _ _ hs8⟩)); clear hK K; (try simp only [Act.put, List.setIfInBounds_toArray, List.set_cons_zero, List.set_cons_succ]))
      (refine wpAnyS_seq (by rfl) (by kernel_rfl) ?_; simp only [List.drop_succ_cons, List.drop_zero])
      go_wp2_with ((with_reducible show wpList _ _ _ _ _ _); refine wpl_store1 rfl 23 _ _ rfl hs8.swap (0) rfl (.slice vo (i + 1) vc) rfl rfl (by kernel_rfl) (by simp) rfl ?_; intro w9 hs9)
      case roundEnd =>
        exact ⟨⟨i + 1, .slice vo (i + 1) vc, by go_num, by omega, (hs9.cast rfl (show _ = [Value.slice vo (i + 1) vc] by simp)).swap.cast rfl (by rw [HT.out, HID.out])⟩, by simp [intOf]; omega⟩
    · obtain rfl : i = l.length := by omega
      have HIL := Mx.hid (show (ids1 l).take l.length = ids1 l from List.take_of_length_le (by simp [ids1]))
      rw [HIL.out] at hs
      go_wp2_with fail
      go_ret
      exact ⟨gx, gy, gz, rfl, hs.bare, ⟨_, hs.rcell (List.mem_cons_of_mem _ (List.mem_cons_of_mem _ (List.mem_cons_of_mem _ (List.mem_cons_self ..)))) rfl, LL.old hs HV.out⟩, hs.rcell (List.mem_cons_of_mem _ (List.mem_cons_of_mem _ (List.mem_cons_self ..))) rfl, ⟨_, hs.rcell (List.mem_cons_of_mem _ (List.mem_cons_self ..)) rfl, hs.sl0⟩⟩
theorem ids1_get {l : List (List UInt8)} {k : Nat} (hk : k < l.length) : (ids1 l)[k]'(by simpa [ids1] using hk) = idB (l.getD k []) := by
  simp [ids1, List.getD_eq_getElem?_getD, List.getElem?_eq_getElem hk]
set_option maxRecDepth 100000 in
set_option maxHeartbeats 2000000 in
theorem src_any (g2 g3 g5 : Nat) (l : List (List UInt8)) (lie : Bool) (id : ByteArray) (w : World) (h : SM w g2 g3 g5 l lie) (hz : ∀ x ∈ l, x.length ≤ 140737488351232) (hl : l.length ≤ 1000000) :
    Calls Tryz.prog 21 #[.string id, .pointer (some ⟨g2, 0, none⟩), .pointer (some ⟨g3, 0, none⟩), .pointer (some ⟨g5, 0, none⟩)] w (SourceAns (srcF l lie id) w) := by
  obtain ⟨lv, c2, hLL⟩ := h.ll
  have c3 := h.lc
  obtain ⟨iv, c5, hI⟩ := h.ic
  obtain ⟨ao, cap, blk, off, us, rfl, h1, h2, hc, hs⟩ := hLL.at
  obtain ⟨bo, bcap, blk', off', rfl, i1, i2, hll, hic⟩ := hI.txt
  have HC := Mx.hid (fun k hk => (⟨(hc k hk).1, (hc k hk).2⟩ : ao = some ⟨blk, off, none⟩ ∧ w.cell? ⟨blk, off + k, none⟩ = some (us k)))
  have HS := Mx.hid hs
  have HZ := Mx.hid (fun (k : Nat) (hk : k < l.length) => hz l[k] (List.getElem_mem hk))
  have HI := Mx.hid (fun (k : Nat) (hk : k < l.length) => (show bo = some ⟨blk', off', none⟩ ∧ w.cell? ⟨blk', off' + k, none⟩ = some (.string (idB (l.getD k []))) from by
    have := hic k (by simpa [ids1] using hk)
    rw [ids1_get hk] at this
    exact this))
  have HST : Hid (srcF l lie id = srcI l lie id 0) := Mx.hid (by unfold srcF; rfl)
  generalize srcF l lie id = so at *
  clear h hLL hI hc hs hz hic hll
  go_enter Tryz.func21, Tryz.ntmps21
  go_wp2_with fail
  go_loopw [7, 8] (fun y _ wr => ∃ i : Nat, y = .int .i64 i ∧ i ≤ l.length ∧ Hid (so = srcI l lie id i) ∧ St w wr [] []) (fun y _ _ => l.length - (intOf y).toNat)
  case atStart => exact ⟨0, rfl, by omega, HST, St.refl w⟩
  case round =>
    clear HST
    obtain ⟨i, rfl, hi, HSI, hq⟩ := hrel
    replace c2 := hq.keep c2
    replace c3 := hq.keep c3
    replace c5 := hq.keep c5
    by_cases hlt : i < l.length
    · obtain ⟨rfl, a0⟩ := HC.out i hlt
      have hk := kB_lt (lie := lie) hlt
      obtain ⟨rfl, b0⟩ := HI.out _ hk
      have hx := HS.out i hlt
      obtain ⟨xo, xc, hu, _⟩ := Sl.form hx
      replace a0 := hq.keep a0
      replace b0 := hq.keep b0
      rw [hu] at a0 hx
      have HXX := Mx.hid (copyBytes_any _ l[i] wr (hq.old hx) (by have := HZ.out i hlt; omega))
      have HSR := Mx.hid (show so = if idB (l.getD (kB l lie i) []) = id then some (l.getD i []) else srcI l lie id (i + 1) by rw [HSI.out, srcI, if_pos hlt])
      have HGD := Mx.hid (show l.getD i [] = l[i] by rw [List.getD_eq_getElem?_getD, List.getElem?_eq_getElem hlt]; rfl)
      have hii : (i : Int) < (l.length : Int) := by omega
      clear hx hu HSI
      generalize idB (l.getD (kB l lie i) []) = idk at *
      cases lie with
      | false =>
        have hkk : kB l false i = i := rfl
        rw [hkk] at b0 hk
        clear hkk
        by_cases he : idk = id
        · have hb : (idk.toList == id.toList) = true := tx_beq he
          have HF := Mx.hid (show so = some l[i] by rw [HSR.out, if_pos he, HGD.out])
          clear he
          go_wp2_with fail
          refine HXX.out.mono ?_
          rintro e w1 ⟨v, rfl, hk1⟩
          go_wp2_with fail
          go_ret2
          rw [HF.out]
          exact ⟨_, rfl, hq.call hk1⟩
        · have hb : (idk.toList == id.toList) = false := tx_bne he
          have HF := Mx.hid (show so = srcI l false id (i + 1) by rw [HSR.out, if_neg he])
          clear he
          go_wp2_with fail
          exact ⟨⟨i + 1, by go_num, by omega, HF, hq⟩, by simp [intOf]; omega⟩
      | true =>
        have hkk : kB l true i = (i + 1) % l.length := by unfold kB; rw [if_pos rfl]
        rw [hkk] at b0 hk
        have hl0 : ¬ (l.length : Int) = 0 := by omega
        have hw1 : IntKind.i64.wrap ((i : Int) + 1) = (i : Int) + 1 := IntWalk.i64_in _ (by omega)
        have h9 : (0 : Int) ≤ ((i : Int) + 1) % (l.length : Int) := Int.emod_nonneg _ hl0
        have h10 : ((i : Int) + 1) % (l.length : Int) < (l.length : Int) := Int.emod_lt_of_pos _ (by omega)
        clear hkk
        by_cases he : idk = id
        · have hb : (idk.toList == id.toList) = true := tx_beq he
          have HF := Mx.hid (show so = some l[i] by rw [HSR.out, if_pos he, HGD.out])
          clear he
          go_wp2_with fail
          refine HXX.out.mono ?_
          rintro e w1 ⟨v, rfl, hk1⟩
          go_wp2_with fail
          go_ret2
          rw [HF.out]
          exact ⟨_, rfl, hq.call hk1⟩
        · have hb : (idk.toList == id.toList) = false := tx_bne he
          have HF := Mx.hid (show so = srcI l true id (i + 1) by rw [HSR.out, if_neg he])
          clear he
          go_wp2_with fail
          exact ⟨⟨i + 1, by go_num, by omega, HF, hq⟩, by simp [intOf]; omega⟩
    · have HF := Mx.hid (show so = none by rw [HSI.out, srcI, if_neg hlt])
      go_wp2_with fail
      go_ret2
      rw [HF.out]
      exact ⟨rfl, hq⟩
end Go.Proofs.YtloogjdafhjheaaGreat
