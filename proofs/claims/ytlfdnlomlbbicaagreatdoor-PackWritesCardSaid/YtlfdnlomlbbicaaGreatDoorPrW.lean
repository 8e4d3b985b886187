/- The walk of marref9.Write. -/
import Derived.Test.YtlfdnlomlbbicaaGreatDoorJ22PkX
import Derived.Test.YtlfdnlomlbbicaaGreatDoorRSum
import Derived.Test.YtlfdnlomlbbicaaGreatDoorR6D
import Derived.Test.YtlfdnlomlbbicaaGreatDoorJ18ObjA
import Derived.Deep.DeepCutAuto
namespace Go.Mx
open Go Go.RowKit
def dps (pre : List (List UInt8 × Nat)) : List Int := pre.map fun p => (p.2 : Int)
theorem dps_len (pre : List (List UInt8 × Nat)) : (dps pre).length = pre.length := List.length_map _
theorem dps_snoc (pre : List (List UInt8 × Nat)) (x : List UInt8) (d : Nat) : is (dps (pre ++ [(x, d)])) = is (dps pre) ++ [.int .i64 (d : Int)] := by simp [dps, is]
theorem dps_app (pre : List (List UInt8 × Nat)) (x : List UInt8) (d : Nat) : dps (pre ++ [(x, d)]) = dps pre ++ [(d : Int)] := by simp [dps]
theorem dps_get {pre : List (List UInt8 × Nat)} {j : Nat} (h : j < pre.length) : (is (dps pre))[j]? = some (.int .i64 (pre[j].2 : Int)) := by simp [dps, is, h]
end Go.Mx
namespace Go.Proofs.YtlfdnlomlbbicaaGreatDoor
open Go.RowKit Go.Mx
abbrev dpr (v : Value) (n : Nat) (D : List Int) : Row := ⟨v, 3, 1, n, is D⟩
set_option maxRecDepth 200000 in
set_option maxHeartbeats 4000000 in
theorem rwrite_any (v : Value) (l : List (List UInt8)) (w : World) (hv : LL w v l) (hl : l.length ≤ 127) (hz : ∀ x ∈ l, x.length ≤ 2000) :
    Calls Tryz.prog 9 #[v] w (PkwPost l w) := by
  have HV := Mx.hid hv
  obtain ⟨ao, cap, blk, off, us, rfl, h1, h2, hc, hs⟩ := hv.at
  have HC := Mx.hid (fun k hk => (⟨(hc k hk).1, (hc k hk).2⟩ : ao = some ⟨blk, off, none⟩ ∧ w.cell? ⟨blk, off + k, none⟩ = some (us k)))
  have HS := Mx.hid hs
  have HZ := Mx.hid (fun (k : Nat) (hk : k < l.length) => hz l[k] (List.getElem_mem hk))
  have HB := Mx.hid (bodyP_len hz hl)
  have hp1 := putL_1 hl
  clear hv hc hs hz
  have d0 : decide ((512 : Int) < (l.length : Int)) = false := decide_eq_false (by omega)
  have kc := fun (w : World) (C : Array Value) (n c : Nat) => Lib.run_convert_bytes_const (P := Tryz.prog) w 25 5 C n c Tryz.underlying25 Tryz.underlying5
  go_enter Tryz.func9, Tryz.ntmps9
  go_wp2_with fail
  go_loopw [4] (fun y wr => ∃ i : Nat, y = .int .i64 i ∧ i ≤ l.length ∧ w = wr) (fun y _ => l.length - (intOf y).toNat)
  case atStart => exact ⟨0, rfl, by omega, rfl⟩
  case round =>
    obtain ⟨i, rfl, hi, rfl⟩ := hrel
    by_cases hlt : i < l.length
    · obtain ⟨rfl, a0⟩ := HC.out i hlt
      have hx := HS.out i hlt
      obtain ⟨xo, xc, hu, _⟩ := Sl.form hx
      have hlz := HZ.out i hlt
      rw [hu] at a0
      have hd : decide ((20000 : Int) < (l[i].length : Int)) = false := decide_eq_false (by omega)
      clear hx hu kc
      generalize l[i].length = n at *
      go_wp2_with fail
      exact ⟨⟨i + 1, by go_num, by omega, by trivial⟩, by simp [intOf]; omega⟩
    · go_wp2_with fail
      clear hlt hi
      go_loopw [5] (fun y wr => ∃ i : Nat, y = .int .i64 i ∧ i ≤ l.length ∧ Hid (∀ x ∈ l.take i, (decO x).2 = 0) ∧ St w wr [] []) (fun y _ => l.length - (intOf y).toNat)
      case atStart => exact ⟨0, rfl, by omega, by simp [Hid], St.refl w⟩
      case round =>
        obtain ⟨i, rfl, hi, HD, hq⟩ := hrel
        by_cases hlt : i < l.length
        · obtain ⟨rfl, a0⟩ := HC.out i hlt
          have hx := HS.out i hlt
          obtain ⟨xo, xc, hu, _⟩ := Sl.form hx
          have hlz := HZ.out i hlt
          have HTK := Mx.hid (List.take_succ_eq_append_getElem hlt)
          have HMEM := Mx.hid (List.getElem_mem hlt)
          replace a0 := hq.keep a0
          rw [hu] at a0 hx
          have HX := Mx.hid (rdecode_any _ l[i] wr (hq.old hx) (by omega))
          have HM4 := Mx.hid (fun h => mayE_4 HMEM.out h)
          clear hx hu kc
          generalize l[i] = b at *
          go_wp2_with fail
          refine HX.out.mono ?_
          unfold RDecPost
          rintro e w1 ⟨dv, iv, pv, rfl, h3⟩
          generalize (decO b).1 = o at *
          generalize her : (decO b).2 = er at *
          have HER := Mx.hid her
          clear her
          obtain ⟨kq, dq, iq, tq, pq, sq, aq, mq⟩ := o
          obtain ⟨qd1, qd2, rfl, _⟩ := id (show Sl w1 1 dv dq.length (bs dq) from h3.sl0)
          obtain ⟨qi1, qi2, rfl, _⟩ := id (show Sl w1 3 iv iq.length (itms iq) from h3.sl1)
          obtain ⟨qp1, qp2, rfl, _⟩ := id (show Sl w1 1 pv pq.length (ss pq) from h3.sl2)
          simp only [OV, obR6] at h3 ⊢
          by_cases h0 : er = 0
          · subst h0
            go_wp2_with (((with_reducible show wpList _ _ _ _ _ _); refine wpl_storeA rfl 59 _ _ rfl Tryz.aObj6 (h3.madeAt ([.int .i64 (0), .slice none 0 0, .slice none 0 0, .string (str []), .slice none 0 0, .int .i64 (0), .int .i64 (0), .string (str [])]).toArray 59 8 1 _ rfl (by simp [maxLen]) rfl) (0) rfl ([.int .i64 kq, .slice qd1 dq.length qd2, .slice qi1 iq.length qi2, .string tq, .slice qp1 pq.length qp2, .int .i64 sq, .int .i64 aq, .string mq]) rfl (by rfl) (by simp) (by intro u hu; simp at hu; rcases hu with rfl | rfl | rfl | rfl | rfl | rfl | rfl | rfl <;> rfl) ?_; intro w2 hs2))
            refine ⟨⟨i + 1, by go_num, by omega, ?_, hq.call0 hs2.bare⟩, by simp [intOf]; omega⟩
            show ∀ x ∈ _, _
            rw [HTK.out]
            intro x hx
            rcases List.mem_append.1 hx with hx | hx
            · exact HD.out x hx
            · rw [List.mem_singleton.1 hx]; exact HER.out
          · have hb : (er != 0) = true := by simpa using h0
            have HE := Mx.hid (HM4.out h0)
            go_wp2_with (((with_reducible show wpList _ _ _ _ _ _); refine wpl_storeA rfl 59 _ _ rfl Tryz.aObj6 (h3.madeAt ([.int .i64 (0), .slice none 0 0, .slice none 0 0, .string (str []), .slice none 0 0, .int .i64 (0), .int .i64 (0), .string (str [])]).toArray 59 8 1 _ rfl (by simp [maxLen]) rfl) (0) rfl ([.int .i64 kq, .slice qd1 dq.length qd2, .slice qi1 iq.length qi2, .string tq, .slice qp1 pq.length qp2, .int .i64 sq, .int .i64 aq, .string mq]) rfl (by rfl) (by simp) (by intro u hu; simp at hu; rcases hu with rfl | rfl | rfl | rfl | rfl | rfl | rfl | rfl <;> rfl) ?_; intro w2 hs2))
            go_ret2
            exact .inr ⟨HE.out, rfl, hq.call0 hs2.bare⟩
        · have HE := Mx.hid (mayE_0 (l := l) (by have := HD.out; rwa [List.take_of_length_le (by omega)] at this))
          have HNE := Mx.hid (show ∀ (k : Nat) (hk : k < l.length), 0 < l[k].length from fun k hk => by
            have h := HD.out l[k] (by rw [List.take_of_length_le (by omega)]; exact List.getElem_mem hk)
            refine List.length_pos_iff.2 fun h' => ?_
            rw [h'] at h
            cases h)
          clear HD
          have hq1 := hq.madeM_at #[.int .u8 77, .int .u8 80, .int .u8 49] 5 1 3 wr.heap.size rfl (by simp [maxLen]) rfl
          go_wp2_with fail
          refine (num_any l.length _ (by omega)).mono ?_
          rintro e w2 ⟨v2, rfl, hk2⟩
          have hs2 := (hq1.call1 hk2).swap
          clear hq1 hq kc
          go_wp2_with (at_builtin; refine wpl_app rfl _ _ 25 rfl Tryz.elU8 (hs2) rfl (by exact hs2.sl1) (bs_one _) (by omega) ?_; intro v3 w3 hs3 _)
          replace hs3 := (hs3.head.cast (n' := (bodyP l 0).length) (xs' := bs (bodyP l 0)) (by rw [bodyP_0, hdP, List.length_append]; rfl) (by rw [bodyP_0, hdP, bs_app]; rfl))
          have HS4 := Mx.hid ((hs3.addNil 3 1).swap)
          clear hs2 hk2 hs3
          go_loopw [8, 9, 10] (fun x y z wr => ∃ i : Nat, z = .int .i64 i ∧ i ≤ l.length ∧ St w wr [pbr x (bodyP l i), dpr y i (dps (pkAll (l.take i)).2)] []) (fun _ _ z _ => l.length - (intOf z).toNat)
          case atStart => exact ⟨0, rfl, by omega, (by rw [List.take_zero]; exact HS4.out)⟩
          case round =>
            clear HS4
            obtain ⟨i, rfl, hi, hs⟩ := hrel
            by_cases hlt : i < l.length
            · obtain ⟨rfl, a0⟩ := HC.out i hlt
              have hx := HS.out i hlt
              have hxz := HZ.out i hlt
              have hxl := HNE.out i hlt
              obtain ⟨xo, xc, xb, xf, hu, _, _, _, hxc⟩ := hx.byt
              obtain ⟨rfl, a1⟩ := hxc 0 hxl
              rw [Nat.add_zero] at a1
              rw [hu] at a0 hx
              have HA := Mx.hid (fun (W : World) (R : List Row) (Q : List Rd) (h : St w W R Q) => h.keep a0)
              have HA1 := Mx.hid (fun (W : World) (R : List Row) (Q : List Rd) (h : St w W R Q) => h.keep a1)
              have HX := Mx.hid hx
              have hbl := HB.out i
              have hst := bodyP_step hlt
              have hpk := pk_take hlt
              have hpl : (pkAll (l.take i)).2.length = i := by rw [pk_len, List.length_take]; omega
              have hpf := pk_fst (l.take i)
              have HHK := Mx.hid (fun (k : Nat) (hk : k < l.length) => head_eq (HNE.out k hk) hxl)
              have hput := putL_2 hxz
              have HSTEP := Mx.hid (fun (E : List UInt8) (d : Nat) (h : entP (pkAll (l.take i)).2 l[i] = (E, d)) => (show bodyP l (i + 1) = bodyP l i ++ E ∧ dps (pkAll (l.take (i + 1))).2 = dps (pkAll (l.take i)).2 ++ [(d : Int)] by
                rw [hst, hpk, pkStep, h]
                exact ⟨rfl, dps_app _ _ d⟩))
              have HPF := Mx.hid hpf
              have HPL := Mx.hid hpl
              have hii : (i : Int) < (l.length : Int) := by omega
              clear hst hpk hpl hpf a0 a1 hu hxc hx
              generalize l[i][0] = c2 at *
              generalize hO : bodyP l i = O at *
              generalize hpre : (pkAll (l.take i)).2 = pre at *
              have HO := Mx.hid hO
              have HPRE := Mx.hid hpre
              generalize hxx : l[i] = x at *
              have HXX := Mx.hid hxx
              clear hO hpre hxx
              have HS0 := Mx.hid hs
              clear hs
              go_wp2_with fail
              go_loopw [11] (fun y wr' => ∃ (n : Nat) (z : Int), y = .int .i64 z ∧ Hid (z = (n : Int) - 1) ∧ n ≤ i ∧ Hid (∀ j, n ≤ j → ∀ q, pre[j]? = some q → ¬ (q.1.head? = x.head? ∧ q.2 < 8)) ∧ St w wr' [pbr u8 O, dpr u9 i (dps pre)] []) (fun y _ => (intOf y + 1).toNat)
              case atStart => exact ⟨i, _, rfl, Mx.hid (by go_num), Nat.le_refl _, Mx.hid (fun j hj q hq => by have := (List.getElem?_eq_some_iff.1 hq).1; have := HPL.out; omega), HS0.out⟩
              case round =>
                clear HS0
                obtain ⟨n, z, rfl, HZ0, hn, HNO, hs⟩ := hrel
                cases n with
                | zero =>
                  obtain rfl : z = -1 := by have := HZ0.out; omega
                  obtain ⟨e1, e2⟩ := HSTEP.out _ _ (ent_0 (nearN_no fun j q hj => HNO.out j (Nat.zero_le _) q hj))
                  have H1 := Mx.hid e1
                  have H2 := Mx.hid e2
                  clear e1 e2
                  go_wp2_with fail
                  refine wp_region_C (fun W' => St w W' [pbr u8 O, dpr u9 i (dps pre)] []) (by kernel_rfl) (by kernel_rfl) (by exact hs.drew) ?_
                  repeat ((first | (refine cq_y0 (v := ?_) (by with_reducible rfl) ?_ ?_; rotate_left 1; (focus (intro wq hq; (try dsimp only at hq); (skip); go_simp; (first | done | with_reducible rfl | fail)))) | (refine cq_no (by go_simp; first | done | (intro h9; cases h9)) ?_) | (refine cq_yes (v := ?_) (by go_simp) ?_ ?_; rotate_left 1; (focus (intro wq hq; (try dsimp only at hq); (skip); go_simp; (first | done | with_reducible rfl | fail))))); (try simp only [Act.put, List.setIfInBounds_toArray, List.set_cons_zero, List.set_cons_succ]))
                  refine cq_nil ?_
                  intro wq hq
                  (try dsimp only at hq)
                  go_wp2_with fail
                  (refine wp_region_S (15) (fun W' => W'.cell? ⟨blk, off + i, none⟩ = some (.slice (some ⟨xb, xf, none⟩) x.length xc)) (by kernel_rfl) ?_ (fun hHeld => ?_); (focus ((try dsimp only); exact HA.out _ _ _ hq.drew)))
                  (refine wpAnyS_takeL (i := 0) (v := ?_) rfl (by kernel_rfl) (by kernel_rfl) (by kernel_rfl) (by kernel_rfl) (by kernel_rfl) (by kernel_rfl) (fun _ _ _ h => h) (Or.inl ⟨by rfl, ?_⟩) hHeld ?_; rotate_left 1; (focus (intro w' hSw; (try dsimp only at hSw); go_simp; (try with_reducible rfl))); (try simp only [Act.put, List.setIfInBounds_toArray, List.set_cons_zero, List.set_cons_succ]))
                  (refine wpAnyS_takeL (i := 3) (v := ?_) rfl (by kernel_rfl) (by kernel_rfl) (by kernel_rfl) (by kernel_rfl) (by kernel_rfl) (by kernel_rfl) (fun _ _ _ h => h) (Or.inl ⟨by rfl, ?_⟩) hHeld ?_; rotate_left 1; (focus (intro w' hSw; (try dsimp only at hSw); go_simp; (try with_reducible rfl))); (try simp only [Act.put, List.setIfInBounds_toArray, List.set_cons_zero, List.set_cons_succ]))
                  (refine wpAnyS_takeL (i := 4) (v := ?_) rfl (by kernel_rfl) (by kernel_rfl) (by kernel_rfl) (by kernel_rfl) (by kernel_rfl) (by kernel_rfl) (fun _ _ _ h => h) (Or.inl ⟨by rfl, ?_⟩) hHeld ?_; rotate_left 1; (focus (intro w' hSw; (try dsimp only at hSw); go_simp; (try with_reducible rfl))); (try simp only [Act.put, List.setIfInBounds_toArray, List.set_cons_zero, List.set_cons_succ]))
                  (refine wpAnyS_takeL (i := 5) (v := ?_) rfl (by kernel_rfl) (by kernel_rfl) (by kernel_rfl) (by kernel_rfl) (by kernel_rfl) (by kernel_rfl) (fun _ _ _ h => h) (Or.inl ⟨by rfl, ?_⟩) hHeld ?_; rotate_left 1; (focus (intro w' hSw; (try dsimp only at hSw); go_simp; (try with_reducible rfl))); (try simp only [Act.put, List.setIfInBounds_toArray, List.set_cons_zero, List.set_cons_succ]))
                  (refine wpAnyS_takeL (i := 6) (v := ?_) rfl (by kernel_rfl) (by kernel_rfl) (by kernel_rfl) (by kernel_rfl) (by kernel_rfl) (by kernel_rfl) (fun _ _ _ h => h) (Or.inl ⟨by rfl, ?_⟩) hHeld ?_; rotate_left 1; (focus (intro w' hSw; (try dsimp only at hSw); go_simp; (try with_reducible rfl))); (try simp only [Act.put, List.setIfInBounds_toArray, List.set_cons_zero, List.set_cons_succ]))
                  (refine wpAnyS_takeW (i := 7) (v := ?_) rfl (by kernel_rfl) (by kernel_rfl) (by kernel_rfl) (by kernel_rfl) (fun _ _ _ h => h) (Or.inl ⟨by first | rfl | (go_simp; done), ?_⟩) hHeld ?_; rotate_left 1; (focus (intro w' hSw; go_simp; (try with_reducible rfl))); (try simp only [Act.put, List.setIfInBounds_toArray, List.set_cons_zero, List.set_cons_succ]))
                  (refine wpAnyS_takeL (i := 10) (v := ?_) rfl (by kernel_rfl) (by kernel_rfl) (by kernel_rfl) (by kernel_rfl) (by kernel_rfl) (by kernel_rfl) (fun _ _ _ h => h) (Or.inl ⟨by rfl, ?_⟩) hHeld ?_; rotate_left 1; (focus (intro w' hSw; (try dsimp only at hSw); go_simp; (try with_reducible rfl))); (try simp only [Act.put, List.setIfInBounds_toArray, List.set_cons_zero, List.set_cons_succ]))
                  (refine wpAnyS_takeL (i := 11) (v := ?_) rfl (by kernel_rfl) (by kernel_rfl) (by kernel_rfl) (by kernel_rfl) (by kernel_rfl) (by kernel_rfl) (fun _ _ _ h => h) (Or.inl ⟨by rfl, ?_⟩) hHeld ?_; rotate_left 1; (focus (intro w' hSw; (try dsimp only at hSw); go_simp; (try with_reducible rfl))); (try simp only [Act.put, List.setIfInBounds_toArray, List.set_cons_zero, List.set_cons_succ]))
                  (refine wpAnyS_takeL (i := 12) (v := ?_) rfl (by kernel_rfl) (by kernel_rfl) (by kernel_rfl) (by kernel_rfl) (by kernel_rfl) (by kernel_rfl) (fun _ _ _ h => h) (Or.inl ⟨by rfl, ?_⟩) hHeld ?_; rotate_left 1; (focus (intro w' hSw; (try dsimp only at hSw); go_simp; (try with_reducible rfl))); (try simp only [Act.put, List.setIfInBounds_toArray, List.set_cons_zero, List.set_cons_succ]))
                  (refine wpAnyS_takeL (i := 13) (v := ?_) rfl (by kernel_rfl) (by kernel_rfl) (by kernel_rfl) (by kernel_rfl) (by kernel_rfl) (by kernel_rfl) (fun _ _ _ h => h) (Or.inl ⟨by rfl, ?_⟩) hHeld ?_; rotate_left 1; (focus (intro w' hSw; (try dsimp only at hSw); go_simp; (try with_reducible rfl))); (try simp only [Act.put, List.setIfInBounds_toArray, List.set_cons_zero, List.set_cons_succ]))
                  (refine wpAnyS_ready (rs := [1]) (by kernel_rfl) (by simp) ?_; refine AllS.consL rfl (fun K hK => ?_) AllS.nil)
                  go_simp
                  (refine hK.out _ _ ?_ (fun hHeld => ?_); (focus ((try dsimp only); exact HA.out _ _ _ (hq.drew.alloc _))); clear hK K; (try simp only [Act.put, List.setIfInBounds_toArray, List.set_cons_zero, List.set_cons_succ]))
                  (refine wpAnyS_ready (rs := [2]) (by kernel_rfl) (by simp) ?_; refine AllS.consL rfl (fun K hK => ?_) AllS.nil)
                  refine step_app rfl _ _ 25 rfl Tryz.elU8 (by exact hq.drew.alloc _) rfl (by exact Sl.one _ _ _) (by intro u hu; simp at hu; subst hu; rfl) (by omega) ?_
                  intro v6 w6 hs6 _
                  (refine hK.out _ _ ?_ (fun hHeld => ?_); (focus ((try dsimp only); exact HA.out _ _ _ hs6)); clear hK K; (try simp only [Act.put, List.setIfInBounds_toArray, List.set_cons_zero, List.set_cons_succ]))
                  (refine wpAnyS_ready (rs := [8]) (by kernel_rfl) (by simp) ?_; refine AllS.consL rfl (fun K hK => ?_) AllS.nil)
                  (go_simp; go_at_call 24; refine (num_any x.length w6 (by omega)).mono ?_; rintro e w' ⟨v7, rfl, hk7⟩; go_wp2_with fail)
                  have hs7 := (hs6.call1 hk7).swap
                  (refine hK.out _ _ ?_ (fun hHeld => ?_); (focus ((try dsimp only); exact HA.out _ _ _ hs7)); clear hK K; (try simp only [Act.put, List.setIfInBounds_toArray, List.set_cons_zero, List.set_cons_succ]))
                  (refine wpAnyS_ready (rs := [9]) (by kernel_rfl) (by simp) ?_; refine AllS.consL rfl (fun K hK => ?_) AllS.nil)
                  refine step_app rfl _ _ 25 rfl Tryz.elU8 (by exact hs7) rfl (by exact hs7.sl1) (bs_one _) (by omega) ?_
                  intro v8 w8 hs8 _
                  have hs8 := hs8.sub (List.Sublist.cons_cons _ (List.sublist_cons_self _ _)) (fun _ h => h)
                  (refine hK.out _ _ ?_ (fun hHeld => ?_); (focus ((try dsimp only); exact HA.out _ _ _ hs8)); clear hK K; (try simp only [Act.put, List.setIfInBounds_toArray, List.set_cons_zero, List.set_cons_succ]))
                  (refine wpAnyS_ready (rs := [14]) (by kernel_rfl) (by simp) ?_; refine AllS.consL rfl (fun K hK => ?_) AllS.nil)
                  refine step_app rfl _ _ 25 rfl Tryz.elU8 (by exact hs8) rfl (by exact hs8.old HX.out) (bs_one _) (by omega) ?_
                  intro v9 w9 hs9 _
                  (refine hK.out _ _ ?_ (fun hHeld => ?_); (focus ((try dsimp only); exact HA.out _ _ _ hs9)); clear hK K; (try simp only [Act.put, List.setIfInBounds_toArray, List.set_cons_zero, List.set_cons_succ]))
                  (refine wpAnyS_seq (by rfl) (by kernel_rfl) ?_; simp only [List.drop_succ_cons, List.drop_zero])
                  go_wp2_with (at_builtin; refine wpl_app rfl _ _ 54 rfl Tryz.elInt (hs9.swap.alloc _) rfl (by exact Sl.one _ _ _) (by intro u hu; simp at hu; subst hu; rfl) (by omega) ?_; intro vd wd hsd _)
                  refine ⟨⟨i + 1, by go_num, by omega, (by rw [H1.out, H2.out]; exact ((hsd.cast (n' := i + 1) (xs' := is (dps pre ++ [0])) rfl (by simp [is])).swap.cast (n' := (O ++ whP x).length) (xs' := bs (O ++ whP x)) (by simp only [whP, List.length_append, List.length_cons]; omega) (by simp only [whP, bs_app, bs_cons]; simp)))⟩, by simp [intOf]; omega⟩
                | succ k =>
                  obtain rfl : z = (k : Int) := by have := HZ0.out; omega
                  have hk : k < l.length := by omega
                  have hki : k < i := by omega
                  have hkp : k < pre.length := by rw [HPL.out]; omega
                  obtain ⟨_, b0⟩ := HC.out k hk
                  have hy := HS.out k hk
                  have hyz := HZ.out k hk
                  have hyl := HNE.out k hk
                  obtain ⟨yo, yc, yb, yf, hu2, _, _, _, hyc⟩ := hy.byt
                  obtain ⟨rfl, b1⟩ := hyc 0 (HNE.out k hk)
                  rw [Nat.add_zero] at b1
                  rw [hu2] at b0 hy
                  have hpk : pre[k]? = some pre[k] := List.getElem?_eq_getElem hkp
                  have hfst : pre[k].1 = l[k] := by
                    have : (pre.map Prod.fst)[k]? = (l.take i)[k]? := by rw [HPF.out]
                    rw [List.getElem?_map, hpk, List.getElem?_take, if_pos (by omega), List.getElem?_eq_getElem hk] at this
                    simpa using this
                  have hg := dps_get hkp
                  obtain ⟨gy, gc, hu9, _⟩ := hs.swap.form0 (by omega)
                  subst hu9
                  have HHK2 := Mx.hid (HHK.out k hk)
                  have HK0 := Mx.hid (fun (W : World) (R : List Row) (Q : List Rd) (h : St w W R Q) => h.keep b0)
                  have HK1 := Mx.hid (fun (W : World) (R : List Row) (Q : List Rd) (h : St w W R Q) => h.keep b1)
                  have HY := Mx.hid hy
                  clear hyc hu2 b0 b1 hy
                  generalize l[k][0] = c1 at *
                  rw [← hfst] at HHK2 HY HK0 hyz hyl
                  clear hfst
                  have HST2 := Mx.hid (fun (h : pre[k].1.head? = x.head? ∧ pre[k].2 < 8) => nearN_at hpk h fun j hj q hq => HNO.out j (by omega) q hq)
                  have HSK := Mx.hid (fun (h : ¬ (pre[k].1.head? = x.head? ∧ pre[k].2 < 8)) => (show ∀ j, k ≤ j → ∀ q, pre[j]? = some q → ¬ (q.1.head? = x.head? ∧ q.2 < 8) from fun j hj q hq => by
                    by_cases e : j = k
                    · subst e
                      rw [hpk] at hq
                      cases hq
                      exact h
                    · exact HNO.out j (by omega) q hq))
                  have HPK := Mx.hid hpk
                  have HG := Mx.hid hg
                  clear hpk hg HNO HZ0
                  generalize pre[k] = p at *
                  obtain ⟨y, pd⟩ := p
                  simp only at HHK2 HST2 HSK HPK HG HY HK0 hyz hyl
                  have hkI : (k : Int) < (i : Int) := by omega
                  have hkL : (k : Int) < (l.length : Int) := by omega
                  by_cases hc1 : c1 = c2
                  · have hb := u8_bne hc1
                    by_cases h8 : pd < 8
                    · have hd8 : decide ((8 : Int) ≤ (pd : Int)) = false := decide_eq_false (by omega)
                      have hnear := HST2.out ⟨HHK2.out.2 hc1, h8⟩
                      have hp8 : (pd : Int) ≤ 8 := by omega
                      clear hc1 h8 HSK HST2
                      obtain ⟨Nn, hNn⟩ : ∃ Nn, nearN pre x = Nn := ⟨_, rfl⟩
                      rw [hNn, HPL.out] at hnear
                      have h0 : Nn ≠ 0 := by omega
                      have hkk : pre.length - Nn = k := by rw [HPL.out]; omega
                      have hpk' : pre[pre.length - Nn]? = some (y, pd) := by rw [hkk]; exact HPK.out
                      have hE1 := fun (hm : (makeR y x).length < x.length) => HSTEP.out _ _ (ent_1 hNn h0 hpk' hm)
                      have hE2 := fun (hm : ¬ (makeR y x).length < x.length) => HSTEP.out _ _ (ent_2 hNn h0 hpk' hm)
                      have hik : (i : Int) - (k : Int) = (Nn : Int) := by omega
                      have hNl : Nn ≤ 127 := by omega
                      have hpn := putL_1 hNl
                      clear hNn hkk hpk' hnear h0
                      go_wp2_with fail
                      refine wp_region_C (fun W' => St w W' [pbr u8 O, dpr (.slice (some ⟨gy, 0, none⟩) i gc) i (dps pre)] []) (by kernel_rfl) (by kernel_rfl) (by exact hs.drew) ?_
                      repeat ((first | (refine cq_y0 (v := ?_) (by with_reducible rfl) ?_ ?_; rotate_left 1; (focus (intro wq hq; (try dsimp only at hq); (have z0 := HA.out _ _ _ hq; have z1 := HA1.out _ _ _ hq; have z2 := HK0.out _ _ _ hq; have z3 := HK1.out _ _ _ hq; have z4 : wq.cell? ⟨gy, k, none⟩ = some (.int .i64 (pd : Int)) := hq.rcell (List.mem_cons_of_mem _ (List.mem_cons_self ..)) HG.out); go_simp; (first | done | with_reducible rfl | fail)))) | (refine cq_no (by go_simp; first | done | (intro h9; cases h9)) ?_) | (refine cq_yes (v := ?_) (by go_simp) ?_ ?_; rotate_left 1; (focus (intro wq hq; (try dsimp only at hq); (have z0 := HA.out _ _ _ hq; have z1 := HA1.out _ _ _ hq; have z2 := HK0.out _ _ _ hq; have z3 := HK1.out _ _ _ hq; have z4 : wq.cell? ⟨gy, k, none⟩ = some (.int .i64 (pd : Int)) := hq.rcell (List.mem_cons_of_mem _ (List.mem_cons_self ..)) HG.out); go_simp; (first | done | with_reducible rfl | fail))))); (try simp only [Act.put, List.setIfInBounds_toArray, List.set_cons_zero, List.set_cons_succ]))
                      refine cq_nil ?_
                      intro wq hq
                      (try dsimp only at hq)
                      go_wp2_with fail
                      (refine wp_region_S (9) (fun W' => W'.cell? ⟨blk, off + k, none⟩ = some (.slice (some ⟨yb, yf, none⟩) y.length yc) ∧ W'.cell? ⟨blk, off + i, none⟩ = some (.slice (some ⟨xb, xf, none⟩) x.length xc)) (by kernel_rfl) ?_ (fun hHeld => ?_); (focus ((try dsimp only); exact ⟨HK0.out _ _ _ hq.drew, HA.out _ _ _ hq.drew⟩)))
                      (refine wpAnyS_takeL (i := 0) (v := ?_) rfl (by kernel_rfl) (by kernel_rfl) (by kernel_rfl) (by kernel_rfl) (by kernel_rfl) (by kernel_rfl) (fun _ _ _ h => h) (Or.inl ⟨by rfl, ?_⟩) hHeld ?_; rotate_left 1; (focus (intro w' hSw; (try dsimp only at hSw); go_simp; (try with_reducible rfl))); (try simp only [Act.put, List.setIfInBounds_toArray, List.set_cons_zero, List.set_cons_succ]))
                      (refine wpAnyS_takeL (i := 1) (v := ?_) rfl (by kernel_rfl) (by kernel_rfl) (by kernel_rfl) (by kernel_rfl) (by kernel_rfl) (by kernel_rfl) (fun _ _ _ h => h) (Or.inl ⟨by rfl, ?_⟩) hHeld ?_; rotate_left 1; (focus (intro w' hSw; (try dsimp only at hSw); go_simp; (try with_reducible rfl))); (try simp only [Act.put, List.setIfInBounds_toArray, List.set_cons_zero, List.set_cons_succ]))
                      (refine wpAnyS_takeL (i := 2) (v := ?_) rfl (by kernel_rfl) (by kernel_rfl) (by kernel_rfl) (by kernel_rfl) (by kernel_rfl) (by kernel_rfl) (fun _ _ _ h => h) (Or.inl ⟨by rfl, ?_⟩) hHeld ?_; rotate_left 1; (focus (intro w' hSw; (try dsimp only at hSw); go_simp; (try with_reducible rfl))); (try simp only [Act.put, List.setIfInBounds_toArray, List.set_cons_zero, List.set_cons_succ]))
                      (refine wpAnyS_takeL (i := 3) (v := ?_) rfl (by kernel_rfl) (by kernel_rfl) (by kernel_rfl) (by kernel_rfl) (by kernel_rfl) (by kernel_rfl) (fun _ _ _ h => h) (Or.inl ⟨by rfl, ?_⟩) hHeld ?_; rotate_left 1; (focus (intro w' hSw; (try dsimp only at hSw); go_simp; (try with_reducible rfl))); (try simp only [Act.put, List.setIfInBounds_toArray, List.set_cons_zero, List.set_cons_succ]))
                      (refine wpAnyS_takeL (i := 4) (v := ?_) rfl (by kernel_rfl) (by kernel_rfl) (by kernel_rfl) (by kernel_rfl) (by kernel_rfl) (by kernel_rfl) (fun _ _ _ h => h) (Or.inl ⟨by rfl, ?_⟩) hHeld ?_; rotate_left 1; (focus (intro w' hSw; (try dsimp only at hSw); go_simp; (try with_reducible rfl))); (try simp only [Act.put, List.setIfInBounds_toArray, List.set_cons_zero, List.set_cons_succ]))
                      (refine wpAnyS_takeL (i := 5) (v := ?_) rfl (by kernel_rfl) (by kernel_rfl) (by kernel_rfl) (by kernel_rfl) (by kernel_rfl) (by kernel_rfl) (fun _ _ _ h => h) (Or.inl ⟨by rfl, ?_⟩) hHeld ?_; rotate_left 1; (focus (intro w' hSw; (try dsimp only at hSw); go_simp; (try with_reducible rfl))); (try simp only [Act.put, List.setIfInBounds_toArray, List.set_cons_zero, List.set_cons_succ]))
                      (refine wpAnyS_takeL (i := 6) (v := ?_) rfl (by kernel_rfl) (by kernel_rfl) (by kernel_rfl) (by kernel_rfl) (by kernel_rfl) (by kernel_rfl) (fun _ _ _ h => h) (Or.inl ⟨by rfl, ?_⟩) hHeld ?_; rotate_left 1; (focus (intro w' hSw; (try dsimp only at hSw); go_simp; (try with_reducible rfl))); (try simp only [Act.put, List.setIfInBounds_toArray, List.set_cons_zero, List.set_cons_succ]))
                      (refine wpAnyS_takeL (i := 7) (v := ?_) rfl (by kernel_rfl) (by kernel_rfl) (by kernel_rfl) (by kernel_rfl) (by kernel_rfl) (by kernel_rfl) (fun _ _ _ h => h) (Or.inl ⟨by rfl, ?_⟩) hHeld ?_; rotate_left 1; (focus (intro w' hSw; (try dsimp only at hSw); go_simp; (try with_reducible rfl))); (try simp only [Act.put, List.setIfInBounds_toArray, List.set_cons_zero, List.set_cons_succ]))
                      (refine wpAnyS_ready (rs := [8]) (by kernel_rfl) (by simp) ?_; refine AllS.consL rfl (fun K hK => ?_) AllS.nil)
                      (go_simp; go_at_call 25; refine (refMake_any _ _ _ y x (hq.drew.old HY.out) (hq.drew.old HX.out) (by omega) (by omega)).mono ?_; rintro e w' ⟨vm, rfl, hk5⟩; go_wp2_with fail)
                      have hs5 := hq.drew.call1 hk5
                      (refine hK.out _ _ ?_ (fun hHeld => ?_); (focus ((try dsimp only); exact ⟨HK0.out _ _ _ hs5, HA.out _ _ _ hs5⟩)); clear hK K; (try simp only [Act.put, List.setIfInBounds_toArray, List.set_cons_zero, List.set_cons_succ]))
                      (refine wpAnyS_seq (by rfl) (by kernel_rfl) ?_; simp only [List.drop_succ_cons, List.drop_zero])
                      obtain ⟨mo, mc, rfl, _⟩ := id hk5.sl0
                      clear hk5 hs hq
                      generalize makeR y x = m at *
                      have gx := HA.out _ _ _ hs5
                      by_cases hm : m.length < x.length
                      · obtain ⟨e1, e2⟩ := hE1 hm
                        have H1 := Mx.hid e1
                        have H2 := Mx.hid e2
                        have hm' : decide (m.length < x.length) = true := decide_eq_true hm
                        have hmz : m.length ≤ 2000 := by omega
                        have hput2 := putL_2 hmz
                        clear hE1 hE2 hm e1 e2
                        have hsP := hs5.swap
                        go_wp2_with (at_builtin; refine wpl_app rfl _ _ 25 rfl Tryz.elU8 (hsP.alloc _) rfl (by exact Sl.one _ _ _) (by intro u hu; simp at hu; subst hu; rfl) (by omega) ?_; intro v6 w6 hs6 _)
                        refine (num_any Nn _ (by omega)).mono ?_
                        rintro e w7 ⟨v7, rfl, hk7⟩
                        have hs7 := (hs6.call1 hk7).swap
                        generalize hla : (putL Nn).length = pa at *
                        go_wp2_with (at_builtin; refine wpl_app rfl _ _ 25 rfl Tryz.elU8 hs7 rfl (by exact hs7.sl1) (bs_one _) (by omega) ?_; intro v8 w8 hs8 _)
                        replace hs8 := hs8.sub (List.Sublist.cons_cons _ (List.sublist_cons_self _ _)) (fun _ h => h)
                        refine (num_any m.length _ (by omega)).mono ?_
                        rintro e w9 ⟨v9, rfl, hk9⟩
                        have hs9 := (hs8.call1 hk9).swap
                        generalize hlb : (putL m.length).length = pc at *
                        go_wp2_with (first | (at_builtin; refine wpl_app rfl _ _ 25 rfl Tryz.elU8 hs9 rfl (by exact hs9.sl1) (bs_one _) (by omega) ?_; intro vA wA hsA _; replace hsA := hsA.sub (List.Sublist.cons_cons _ (List.sublist_cons_self _ _)) (fun _ h => h); have hmv : Sl wA 1 (.slice mo m.length mc) m.length (bs m) := hsA.sl1) | (at_builtin; refine wpl_app rfl _ _ 25 rfl Tryz.elU8 hsA rfl (by exact hmv) (bs_one _) (by omega) ?_; intro vB wB hsB _; have hsC := hsB.perm (List.perm_append_comm (l₁ := [_, _]) (l₂ := [_])); have dd : wB.cell? ⟨gy, k, none⟩ = some (.int .i64 (pd : Int)) := hsC.rcell (List.mem_cons_self ..) HG.out) | (at_builtin; refine wpl_app rfl _ _ 54 rfl Tryz.elInt (hsC.alloc _) rfl (by exact Sl.one _ _ _) (by intro u hu; simp at hu; subst hu; rfl) (by omega) ?_; intro vD wD hsD _))
                        refine ⟨⟨i + 1, by go_num, by omega, ?_⟩, by simp [intOf]; omega⟩
                        rw [H1.out, H2.out]
                        exact ((hsD.cast (n' := i + 1) (xs' := is (dps pre ++ [((pd + 1 : Nat) : Int)])) rfl (by simp [is])).swap.cast (n' := (O ++ (1 :: (putL Nn ++ (putL m.length ++ m)))).length) (xs' := bs (O ++ (1 :: (putL Nn ++ (putL m.length ++ m))))) (by simp only [List.length_append, List.length_cons, hla, hlb]; omega) (by simp only [bs_app, bs_cons]; simp)).sub (.cons_cons _ (.cons_cons _ (.cons _ .slnil))) (by simp)
                      · obtain ⟨e1, e2⟩ := hE2 hm
                        have H1 := Mx.hid e1
                        have H2 := Mx.hid e2
                        have hm' : decide (m.length < x.length) = false := decide_eq_false hm
                        clear hE1 hE2 hm e1 e2
                        have hs6 := hs5.tail
                        clear hs5
                        go_wp2_with fail
                        (refine wp_region_S (15) (fun W' => W'.cell? ⟨blk, off + i, none⟩ = some (.slice (some ⟨xb, xf, none⟩) x.length xc)) (by kernel_rfl) ?_ (fun hHeld => ?_); (focus ((try dsimp only); exact HA.out _ _ _ hs6.drew)))
                        (refine wpAnyS_takeL (i := 0) (v := ?_) rfl (by kernel_rfl) (by kernel_rfl) (by kernel_rfl) (by kernel_rfl) (by kernel_rfl) (by kernel_rfl) (fun _ _ _ h => h) (Or.inl ⟨by rfl, ?_⟩) hHeld ?_; rotate_left 1; (focus (intro w' hSw; (try dsimp only at hSw); go_simp; (try with_reducible rfl))); (try simp only [Act.put, List.setIfInBounds_toArray, List.set_cons_zero, List.set_cons_succ]))
                        (refine wpAnyS_takeL (i := 3) (v := ?_) rfl (by kernel_rfl) (by kernel_rfl) (by kernel_rfl) (by kernel_rfl) (by kernel_rfl) (by kernel_rfl) (fun _ _ _ h => h) (Or.inl ⟨by rfl, ?_⟩) hHeld ?_; rotate_left 1; (focus (intro w' hSw; (try dsimp only at hSw); go_simp; (try with_reducible rfl))); (try simp only [Act.put, List.setIfInBounds_toArray, List.set_cons_zero, List.set_cons_succ]))
                        (refine wpAnyS_takeL (i := 4) (v := ?_) rfl (by kernel_rfl) (by kernel_rfl) (by kernel_rfl) (by kernel_rfl) (by kernel_rfl) (by kernel_rfl) (fun _ _ _ h => h) (Or.inl ⟨by rfl, ?_⟩) hHeld ?_; rotate_left 1; (focus (intro w' hSw; (try dsimp only at hSw); go_simp; (try with_reducible rfl))); (try simp only [Act.put, List.setIfInBounds_toArray, List.set_cons_zero, List.set_cons_succ]))
                        (refine wpAnyS_takeL (i := 5) (v := ?_) rfl (by kernel_rfl) (by kernel_rfl) (by kernel_rfl) (by kernel_rfl) (by kernel_rfl) (by kernel_rfl) (fun _ _ _ h => h) (Or.inl ⟨by rfl, ?_⟩) hHeld ?_; rotate_left 1; (focus (intro w' hSw; (try dsimp only at hSw); go_simp; (try with_reducible rfl))); (try simp only [Act.put, List.setIfInBounds_toArray, List.set_cons_zero, List.set_cons_succ]))
                        (refine wpAnyS_takeL (i := 6) (v := ?_) rfl (by kernel_rfl) (by kernel_rfl) (by kernel_rfl) (by kernel_rfl) (by kernel_rfl) (by kernel_rfl) (fun _ _ _ h => h) (Or.inl ⟨by rfl, ?_⟩) hHeld ?_; rotate_left 1; (focus (intro w' hSw; (try dsimp only at hSw); go_simp; (try with_reducible rfl))); (try simp only [Act.put, List.setIfInBounds_toArray, List.set_cons_zero, List.set_cons_succ]))
                        (refine wpAnyS_takeW (i := 7) (v := ?_) rfl (by kernel_rfl) (by kernel_rfl) (by kernel_rfl) (by kernel_rfl) (fun _ _ _ h => h) (Or.inl ⟨by first | rfl | (go_simp; done), ?_⟩) hHeld ?_; rotate_left 1; (focus (intro w' hSw; go_simp; (try with_reducible rfl))); (try simp only [Act.put, List.setIfInBounds_toArray, List.set_cons_zero, List.set_cons_succ]))
                        (refine wpAnyS_takeL (i := 10) (v := ?_) rfl (by kernel_rfl) (by kernel_rfl) (by kernel_rfl) (by kernel_rfl) (by kernel_rfl) (by kernel_rfl) (fun _ _ _ h => h) (Or.inl ⟨by rfl, ?_⟩) hHeld ?_; rotate_left 1; (focus (intro w' hSw; (try dsimp only at hSw); go_simp; (try with_reducible rfl))); (try simp only [Act.put, List.setIfInBounds_toArray, List.set_cons_zero, List.set_cons_succ]))
                        (refine wpAnyS_takeL (i := 11) (v := ?_) rfl (by kernel_rfl) (by kernel_rfl) (by kernel_rfl) (by kernel_rfl) (by kernel_rfl) (by kernel_rfl) (fun _ _ _ h => h) (Or.inl ⟨by rfl, ?_⟩) hHeld ?_; rotate_left 1; (focus (intro w' hSw; (try dsimp only at hSw); go_simp; (try with_reducible rfl))); (try simp only [Act.put, List.setIfInBounds_toArray, List.set_cons_zero, List.set_cons_succ]))
                        (refine wpAnyS_takeL (i := 12) (v := ?_) rfl (by kernel_rfl) (by kernel_rfl) (by kernel_rfl) (by kernel_rfl) (by kernel_rfl) (by kernel_rfl) (fun _ _ _ h => h) (Or.inl ⟨by rfl, ?_⟩) hHeld ?_; rotate_left 1; (focus (intro w' hSw; (try dsimp only at hSw); go_simp; (try with_reducible rfl))); (try simp only [Act.put, List.setIfInBounds_toArray, List.set_cons_zero, List.set_cons_succ]))
                        (refine wpAnyS_takeL (i := 13) (v := ?_) rfl (by kernel_rfl) (by kernel_rfl) (by kernel_rfl) (by kernel_rfl) (by kernel_rfl) (by kernel_rfl) (fun _ _ _ h => h) (Or.inl ⟨by rfl, ?_⟩) hHeld ?_; rotate_left 1; (focus (intro w' hSw; (try dsimp only at hSw); go_simp; (try with_reducible rfl))); (try simp only [Act.put, List.setIfInBounds_toArray, List.set_cons_zero, List.set_cons_succ]))
                        (refine wpAnyS_ready (rs := [1]) (by kernel_rfl) (by simp) ?_; refine AllS.consL rfl (fun K hK => ?_) AllS.nil)
                        go_simp
                        (refine hK.out _ _ ?_ (fun hHeld => ?_); (focus ((try dsimp only); exact HA.out _ _ _ (hs6.drew.alloc _))); clear hK K; (try simp only [Act.put, List.setIfInBounds_toArray, List.set_cons_zero, List.set_cons_succ]))
                        (refine wpAnyS_ready (rs := [2]) (by kernel_rfl) (by simp) ?_; refine AllS.consL rfl (fun K hK => ?_) AllS.nil)
                        refine step_app rfl _ _ 25 rfl Tryz.elU8 (by exact hs6.drew.alloc _) rfl (by exact Sl.one _ _ _) (by intro u hu; simp at hu; subst hu; rfl) (by omega) ?_
                        intro v6 w6 hs6 _
                        (refine hK.out _ _ ?_ (fun hHeld => ?_); (focus ((try dsimp only); exact HA.out _ _ _ hs6)); clear hK K; (try simp only [Act.put, List.setIfInBounds_toArray, List.set_cons_zero, List.set_cons_succ]))
                        (refine wpAnyS_ready (rs := [8]) (by kernel_rfl) (by simp) ?_; refine AllS.consL rfl (fun K hK => ?_) AllS.nil)
                        (go_simp; go_at_call 24; refine (num_any x.length w6 (by omega)).mono ?_; rintro e w' ⟨v7, rfl, hk7⟩; go_wp2_with fail)
                        have hs7 := (hs6.call1 hk7).swap
                        (refine hK.out _ _ ?_ (fun hHeld => ?_); (focus ((try dsimp only); exact HA.out _ _ _ hs7)); clear hK K; (try simp only [Act.put, List.setIfInBounds_toArray, List.set_cons_zero, List.set_cons_succ]))
                        (refine wpAnyS_ready (rs := [9]) (by kernel_rfl) (by simp) ?_; refine AllS.consL rfl (fun K hK => ?_) AllS.nil)
                        refine step_app rfl _ _ 25 rfl Tryz.elU8 (by exact hs7) rfl (by exact hs7.sl1) (bs_one _) (by omega) ?_
                        intro v8 w8 hs8 _
                        have hs8 := hs8.sub (List.Sublist.cons_cons _ (List.sublist_cons_self _ _)) (fun _ h => h)
                        (refine hK.out _ _ ?_ (fun hHeld => ?_); (focus ((try dsimp only); exact HA.out _ _ _ hs8)); clear hK K; (try simp only [Act.put, List.setIfInBounds_toArray, List.set_cons_zero, List.set_cons_succ]))
                        (refine wpAnyS_ready (rs := [14]) (by kernel_rfl) (by simp) ?_; refine AllS.consL rfl (fun K hK => ?_) AllS.nil)
                        refine step_app rfl _ _ 25 rfl Tryz.elU8 (by exact hs8) rfl (by exact hs8.old HX.out) (bs_one _) (by omega) ?_
                        intro v9 w9 hs9 _
                        (refine hK.out _ _ ?_ (fun hHeld => ?_); (focus ((try dsimp only); exact HA.out _ _ _ hs9)); clear hK K; (try simp only [Act.put, List.setIfInBounds_toArray, List.set_cons_zero, List.set_cons_succ]))
                        (refine wpAnyS_seq (by rfl) (by kernel_rfl) ?_; simp only [List.drop_succ_cons, List.drop_zero])
                        go_wp2_with (at_builtin; refine wpl_app rfl _ _ 54 rfl Tryz.elInt (hs9.swap.alloc _) rfl (by exact Sl.one _ _ _) (by intro u hu; simp at hu; subst hu; rfl) (by omega) ?_; intro vd wd hsd _)
                        refine ⟨⟨i + 1, by go_num, by omega, (by rw [H1.out, H2.out]; exact ((hsd.cast (n' := i + 1) (xs' := is (dps pre ++ [0])) rfl (by simp [is])).swap.cast (n' := (O ++ whP x).length) (xs' := bs (O ++ whP x)) (by simp only [whP, List.length_append, List.length_cons]; omega) (by simp only [whP, bs_app, bs_cons]; simp)))⟩, by simp [intOf]; omega⟩
                    · have hd8 : decide ((8 : Int) ≤ (pd : Int)) = true := decide_eq_true (by omega)
                      have HK2 := Mx.hid (HSK.out fun h => h8 h.2)
                      clear hc1 h8 HSK HST2
                      go_wp2_with fail
                      refine wp_region_C (fun W' => St w W' [pbr u8 O, dpr (.slice (some ⟨gy, 0, none⟩) i gc) i (dps pre)] []) (by kernel_rfl) (by kernel_rfl) (by exact hs.drew) ?_
                      repeat ((first | (refine cq_y0 (v := ?_) (by with_reducible rfl) ?_ ?_; rotate_left 1; (focus (intro wq hq; (try dsimp only at hq); (have z0 := HA.out _ _ _ hq; have z1 := HA1.out _ _ _ hq; have z2 := HK0.out _ _ _ hq; have z3 := HK1.out _ _ _ hq; have z4 : wq.cell? ⟨gy, k, none⟩ = some (.int .i64 (pd : Int)) := hq.rcell (List.mem_cons_of_mem _ (List.mem_cons_self ..)) HG.out); go_simp; (first | done | with_reducible rfl | fail)))) | (refine cq_no (by go_simp; first | done | (intro h9; cases h9)) ?_) | (refine cq_yes (v := ?_) (by go_simp) ?_ ?_; rotate_left 1; (focus (intro wq hq; (try dsimp only at hq); (have z0 := HA.out _ _ _ hq; have z1 := HA1.out _ _ _ hq; have z2 := HK0.out _ _ _ hq; have z3 := HK1.out _ _ _ hq; have z4 : wq.cell? ⟨gy, k, none⟩ = some (.int .i64 (pd : Int)) := hq.rcell (List.mem_cons_of_mem _ (List.mem_cons_self ..)) HG.out); go_simp; (first | done | with_reducible rfl | fail))))); (try simp only [Act.put, List.setIfInBounds_toArray, List.set_cons_zero, List.set_cons_succ]))
                      refine cq_nil ?_
                      intro wq hq
                      (try dsimp only at hq)
                      go_wp2_with fail
                      exact ⟨⟨k, _, rfl, Mx.hid (by go_num), by omega, HK2, hq⟩, by simp [intOf]⟩
                  · have hb := u8_bne' hc1
                    have HK2 := Mx.hid (HSK.out fun h => hc1 (HHK2.out.1 h.1))
                    clear hc1 HSK HST2
                    go_wp2_with fail
                    refine wp_region_C (fun W' => St w W' [pbr u8 O, dpr (.slice (some ⟨gy, 0, none⟩) i gc) i (dps pre)] []) (by kernel_rfl) (by kernel_rfl) (by exact hs.drew) ?_
                    repeat ((first | (refine cq_y0 (v := ?_) (by with_reducible rfl) ?_ ?_; rotate_left 1; (focus (intro wq hq; (try dsimp only at hq); (have z0 := HA.out _ _ _ hq; have z1 := HA1.out _ _ _ hq; have z2 := HK0.out _ _ _ hq; have z3 := HK1.out _ _ _ hq; have z4 : wq.cell? ⟨gy, k, none⟩ = some (.int .i64 (pd : Int)) := hq.rcell (List.mem_cons_of_mem _ (List.mem_cons_self ..)) HG.out); go_simp; (first | done | with_reducible rfl | fail)))) | (refine cq_no (by go_simp; first | done | (intro h9; cases h9)) ?_) | (refine cq_yes (v := ?_) (by go_simp) ?_ ?_; rotate_left 1; (focus (intro wq hq; (try dsimp only at hq); (have z0 := HA.out _ _ _ hq; have z1 := HA1.out _ _ _ hq; have z2 := HK0.out _ _ _ hq; have z3 := HK1.out _ _ _ hq; have z4 : wq.cell? ⟨gy, k, none⟩ = some (.int .i64 (pd : Int)) := hq.rcell (List.mem_cons_of_mem _ (List.mem_cons_self ..)) HG.out); go_simp; (first | done | with_reducible rfl | fail))))); (try simp only [Act.put, List.setIfInBounds_toArray, List.set_cons_zero, List.set_cons_succ]))
                    refine cq_nil ?_
                    intro wq hq
                    (try dsimp only at hq)
                    go_wp2_with fail
                    exact ⟨⟨k, _, rfl, Mx.hid (by go_num), by omega, HK2, hq⟩, by simp [intOf]⟩
            · obtain rfl : i = l.length := by omega
              have hbe := bodyP_end l
              rw [hbe] at hs
              have hbl := HB.out l.length
              rw [hbe] at hbl
              have HPL := Mx.hid (show packL l = pkB l ++ sha (pkB l) from rfl)
              have hsl := sha_len (pkB l)
              generalize pkB l = O at *
              go_wp2_with fail
              refine (rsum_any _ O wr hs.sl0 (by omega)).mono ?_
              rintro e w4 ⟨v4, rfl, hk⟩
              have hk := hk.cast (n' := (sha O).length) (xs' := bs (sha O)) hsl.symm rfl
              have hs4 := (hs.call1 hk).swap
              generalize sha O = sh at *
              go_wp2_with (at_builtin; refine wpl_app rfl _ _ 25 rfl Tryz.elU8 hs4 rfl (by exact hk.sl0) (bs_one _) (by omega) ?_; intro v5 w5 hs5 _)
              go_ret2
              refine .inl ⟨HE.out, v5, rfl, ?_⟩
              rw [HPL.out]
              exact hs5.head.cast (by rw [List.length_append]) (by rw [bs_app])
end Go.Proofs.YtlfdnlomlbbicaaGreatDoor
