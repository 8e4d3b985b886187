/- Walk of diff3.Merge. -/
import Derived.Test.YtafmgclhgmhflaaDoorD3X
import Derived.Test.YtafmgclhgmhflaaDoorD3T
import Derived.Test.YtafmgclhgmhflaaDoorSplit
namespace Go.Proofs.YtafmgclhgmhflaaDoor
open Go.RowKit Go.Mx

theorem Tryd.aChunk : Ag Tryd.prog 42 4 := ⟨⟨_, Tryd.underlying42, rfl⟩, by kernel_rfl⟩
def MgPost (o a b : List UInt8) (w : World) (e : Ending) (w' : World) : Prop :=
  ∃ v, e = .returned (.tuple #[v, .bool (mgR o a b).isSome, .int .i64 (mgE o a b)]) ∧ St w w' [⟨v, 5, 1, ((mgR o a b).getD []).length, bs ((mgR o a b).getD [])⟩] []
theorem MgPost.none {o a b : List UInt8} {w w' : World} {n : Int} (hR : mgR o a b = none) (hE : mgE o a b = n) (hs : St w w' [] []) : MgPost o a b w (.returned (.tuple #[.slice none 0 0, .bool false, .int .i64 n])) w' := by
  unfold MgPost
  rw [hR, hE]
  exact ⟨_, rfl, hs.addNil _ 1⟩
theorem MgPost.some {o a b l : List UInt8} {w w' : World} {v : Value} (hR : mgR o a b = some l) (hE : mgE o a b = 0) (hs : St w w' [⟨v, 5, 1, l.length, bs l⟩] []) : MgPost o a b w (.returned (.tuple #[v, .bool true, .int .i64 0])) w' := by
  unfold MgPost
  rw [hR, hE]
  exact ⟨_, rfl, hs⟩

set_option maxRecDepth 100000 in
set_option maxHeartbeats 8000000 in
theorem merge_any (vo va vb : Value) (o a b : List UInt8) (w : World) (ho : Sl w 1 vo o.length (bs o)) (ha : Sl w 1 va a.length (bs a)) (hb : Sl w 1 vb b.length (bs b)) (lo : o.length ≤ 1000000) (la : a.length ≤ 1000000) (lb : b.length ≤ 1000000) :
    Calls Tryd.prog 16 #[vo, va, vb] w (MgPost o a b w) := by
  have TO := text_any vo o w ho
  have TA := text_any va a w ha
  have TB := text_any vb b w hb
  have hT : mgT o a b = (isText o && isText a && isText b) := rfl
  cases h1 : isText o with
  | false =>
    rw [h1] at TO
    have HP := Mx.hid (fun w' hs => MgPost.none (n := 0) (o := o) (a := a) (b := b) (w := w) (w' := w') (by unfold mgR; simp [hT, h1]) (by unfold mgE; simp [hT, h1]) hs)
    have HTO := Mx.hid TO
    clear TO TA TB hT h1
    go_enter Tryd.func16, Tryd.ntmps16
    go_wp2_with fail
    refine HTO.out.mono ?_
    rintro e w' ⟨rfl, rfl⟩
    go_wp2_with (first | ((with_reducible show wpList _ _ _ _ _ _); refine wpl_want rfl ?_))
    go_ret3
    exact HP.out _ (St.refl _)
  | true =>
    rw [h1] at TO
    cases h2 : isText a with
    | false =>
      rw [h2] at TA
      have HP := Mx.hid (fun w' hs => MgPost.none (n := 0) (o := o) (a := a) (b := b) (w := w) (w' := w') (by unfold mgR; simp [hT, h1, h2]) (by unfold mgE; simp [hT, h1, h2]) hs)
      have HTO := Mx.hid TO
      have HTA := Mx.hid TA
      clear TO TA TB hT h1 h2
      go_enter Tryd.func16, Tryd.ntmps16
      go_wp2_with fail
      refine HTO.out.mono ?_
      rintro e w' ⟨rfl, rfl⟩
      go_wp2_with (first | ((with_reducible show wpList _ _ _ _ _ _); refine wpl_want rfl ?_))
      refine HTA.out.mono ?_
      rintro e w' ⟨rfl, rfl⟩
      go_wp2_with (first | ((with_reducible show wpList _ _ _ _ _ _); refine wpl_want rfl ?_))
      go_ret3
      exact HP.out _ (St.refl _)
    | true =>
      rw [h2] at TA
      cases h3 : isText b with
      | false =>
        rw [h3] at TB
        have HP := Mx.hid (fun w' hs => MgPost.none (n := 0) (o := o) (a := a) (b := b) (w := w) (w' := w') (by unfold mgR; simp [hT, h1, h2, h3]) (by unfold mgE; simp [hT, h1, h2, h3]) hs)
        have HTO := Mx.hid TO
        have HTA := Mx.hid TA
        have HTB := Mx.hid TB
        clear TO TA TB hT h1 h2 h3
        go_enter Tryd.func16, Tryd.ntmps16
        go_wp2_with fail
        refine HTO.out.mono ?_
        rintro e w' ⟨rfl, rfl⟩
        go_wp2_with (first | ((with_reducible show wpList _ _ _ _ _ _); refine wpl_want rfl ?_))
        refine HTA.out.mono ?_
        rintro e w' ⟨rfl, rfl⟩
        go_wp2_with (first | ((with_reducible show wpList _ _ _ _ _ _); refine wpl_want rfl ?_))
        refine HTB.out.mono ?_
        rintro e w' ⟨rfl, rfl⟩
        go_wp2_with (first | ((with_reducible show wpList _ _ _ _ _ _); refine wpl_want rfl ?_))
        go_ret3
        exact HP.out _ (St.refl _)
      | true =>
        rw [h3] at TB
        have HTT : Hid (mgT o a b = true) := by show _ = _; rw [hT, h1, h2, h3]; rfl
        have HTO := Mx.hid TO
        have HTA := Mx.hid TA
        have HTB := Mx.hid TB
        clear TO TA TB hT h1 h2 h3
        have hlo := lns_len o
        have hla := lns_len a
        have hlb := lns_len b
        go_enter Tryd.func16, Tryd.ntmps16
        go_wp2_with fail
        refine HTO.out.mono ?_
        rintro e w' ⟨rfl, rfl⟩
        go_wp2_with (first | ((with_reducible show wpList _ _ _ _ _ _); refine wpl_want rfl ?_))
        refine HTA.out.mono ?_
        rintro e w' ⟨rfl, rfl⟩
        go_wp2_with (first | ((with_reducible show wpList _ _ _ _ _ _); refine wpl_want rfl ?_))
        refine HTB.out.mono ?_
        rintro e w' ⟨rfl, rfl⟩
        go_wp2_with (first | ((with_reducible show wpList _ _ _ _ _ _); refine wpl_want rfl ?_))
        refine (split_any vo o _ ho (by omega)).mono ?_
        rintro e w1 ⟨v1, rfl, hs1, hl1⟩
        go_wp2_with fail
        refine (split_any va a _ (hs1.old ha) (by omega)).mono ?_
        rintro e w2 ⟨v2, rfl, hs2, hl2⟩
        replace hl1 := hs2.old hl1
        replace hs2 := hs1.call0 hs2
        go_wp2_with fail
        refine (split_any vb b _ (hs2.old hb) (by omega)).mono ?_
        rintro e w3 ⟨v3, rfl, hs3, hl3⟩
        replace hl1 := hs3.old hl1
        replace hl2 := hs3.old hl2
        replace hs3 := hs2.call0 hs3
        change Sl w3 1 v1 (lns o).length (ss (txL o)) at hl1
        change Sl w3 1 v2 (lns a).length (ss (txL a)) at hl2
        change Sl w3 1 v3 (lns b).length (ss (txL b)) at hl3
        rw [← txL_len] at hl1 hl2 hl3
        go_wp2_with fail
        refine (chunks_any v1 v2 v3 (txL o) (txL a) (txL b) _ hl1 hl2 hl3).mono ?_
        rintro e w4 ⟨vc, he, hs4, hck⟩
        replace hs4 := hs3.call0 hs4
        clear hs3 hl1 hl2 hl3
        clear HTO HTA HTB hlo hla hlb
        by_cases hbig : big (txL o) (txL a) (txL b)
        · have HP := Mx.hid (fun w' hs => MgPost.none (o := o) (a := a) (b := b) (w := w) (w' := w') (by unfold mgR; rw [if_neg (fun h => h.2 hbig)]) (by unfold mgE; rw [if_pos ⟨HTT.out, hbig⟩]) hs)
          have hE : chE (txL o) (txL a) (txL b) = 14 := if_pos hbig
          rw [hE] at he
          clear hE hbig hck HTT
          subst he
          go_wp2_with fail
          go_ret3
          exact HP.out _ hs4
        · have HR : Hid (mgR o a b = (mrg (chk (txL o) (txL a) (txL b))).map joinL) := by show _ = _; unfold mgR; rw [if_pos ⟨HTT.out, hbig⟩]
          have HE : Hid (mgE o a b = 0) := by show _ = _; unfold mgE; rw [if_neg (fun h => hbig h.2)]
          have hE : chE (txL o) (txL a) (txL b) = 0 := if_neg hbig
          have hC : chC (txL o) (txL a) (txL b) = chk (txL o) (txL a) (txL b) := if_neg hbig
          rw [hE] at he
          rw [hC] at hck
          have hwa := wa_chk (txL o) (txL a) (txL b)
          have hwj := wj_chk (txL o) (txL a) (txL b)
          rw [joinL_txL, joinL_txL] at hwj
          have hb200 : (txL a).length ≤ 200 ∧ (txL b).length ≤ 200 := by unfold big at hbig; omega
          have HK := Mx.hid (chk_k (txL o) (txL a) (txL b))
          clear hE hC hbig HTT
          subst he
          generalize chk (txL o) (txL a) (txL b) = cs at hck hwa hwj HR HK
          have hwa' : wa cs ≤ 400 := by omega
          have hwj' : wj cs ≤ 2000000 := by omega
          clear hwa hwj hb200
          obtain ⟨ac, cc, bc, oc, us, rfl, u1, u2, hc, hd⟩ := hck.at
          have HC := Mx.hid hc
          have HD := Mx.hid hd
          have HS4 := Mx.hid hs4
          clear hc hd hck hs4
          go_wp2_with fail
          go_loopw [11, 42] (fun x y wr => ∃ (k : Nat) (L : List ByteArray), y = .int .i64 k ∧ k ≤ cs.length ∧ Hid (mrg cs = (mrg (cs.drop k)).map fun l => L ++ l) ∧ Hid (L.length + wa (cs.drop k) ≤ wa cs) ∧ Hid ((joinL L).length + wj (cs.drop k) ≤ wj cs) ∧ St w4 wr [⟨x, 9, 1, L.length, ss L⟩] []) (fun _ y _ => cs.length - (intOf y).toNat)
          case atStart => exact ⟨0, [], rfl, by omega, by show _ = _; rw [List.drop_zero]; cases mrg cs <;> simp, by show _ ≤ _; simp, by show _ ≤ _; simp [joinL], St.nil _ _ _⟩
          case round =>
            obtain ⟨k, L, rfl, hk, HM, HA, HJ, hs⟩ := hrel
            by_cases hlt : k < cs.length
            · obtain ⟨rfl, c1, c2, c3, c4⟩ := HC.out k hlt
              obtain ⟨d1, d2, d3⟩ := HD.out k hlt
              have hkk : (k : Int) < (cs.length : Int) := by omega
              have hm := HM.out
              have hka := HA.out
              have hkj := HJ.out
              have hk5 := HK.out cs[k] (List.getElem_mem _)
              rw [List.drop_eq_getElem_cons hlt] at hm hka hkj
              rw [wa_cons] at hka
              rw [wj_cons] at hkj
              obtain ⟨z1, y1, e1, _⟩ := d1
              obtain ⟨z2, y2, e2, _⟩ := d2
              obtain ⟨z3, y3, e3, _⟩ := d3
              obtain ⟨D1, D2, D3⟩ := HD.out k hlt
              rw [e1] at c2 D1
              rw [e2] at c3 D2
              rw [e3] at c4 D3
              replace c1 := hs.keep c1
              replace c2 := hs.keep c2
              replace c3 := hs.keep c3
              replace c4 := hs.keep c4
              generalize hcq : cs[k] = c at *
              obtain ⟨ck, co, ca, cb⟩ := c
              simp only [] at c1 c2 c3 c4 D1 D2 D3 hm hka hkj hk5
              have hm1 := hs.madeAt #[.int .i64 (ck : Int), .slice z1 co.length y1, .slice z2 ca.length y2, .slice z3 cb.length y3] 42 4 1 wr.heap.size rfl (by simp [maxLen]) rfl
              have HDA := Mx.hid D2
              have HDB := Mx.hid D3
              have HKA := Mx.hid hka
              have HKJ := Mx.hid hkj
              have hLb : L.length + (ca.length + cb.length) ≤ 400 := by omega
              clear e1 e2 e3 D1 D2 D3 hka hkj hcq
              by_cases h5 : ck = 5
              · have HR2 : Hid (mgR o a b = none) := by show _ = _; rw [HR.out, hm, mrg_step5 h5]; rfl
                subst h5
                clear hm
                have HP := Mx.hid (fun w' hs => MgPost.none (o := o) (a := a) (b := b) (w := w) (w' := w') HR2.out HE.out hs)
                go_wp2_with fail
                go_ret3
                exact HP.out _ (HS4.out.call0 hm1.bare.noQ)
              · by_cases h3 : ck = 3
                · have HM2 : Hid (mrg cs = (mrg (cs.drop (k + 1))).map fun l => (L ++ cb) ++ l) := by show _ = _; rw [hm, mrg_step3 h3]
                  subst h3
                  have HA2 : Hid ((L ++ cb).length + wa (cs.drop (k + 1)) ≤ wa cs) := by show _ ≤ _; rw [List.length_append]; have := HKA.out; omega
                  have HJ2 : Hid ((joinL (L ++ cb)).length + wj (cs.drop (k + 1)) ≤ wj cs) := by show _ ≤ _; rw [joinL_app, List.length_append]; have := HKJ.out; omega
                  have HS2 := Mx.hid hs.bare
                  clear hm HM HA HJ
                  go_wp2_with (first | (at_builtin; refine wpl_app rfl _ _ 22 rfl Tryd.elStr hm1.tail rfl (by exact hm1.tail.old HDB.out) (ss_one _) (by omega) ?_; intro v8 w8 hs8 _))
                  go_roundw
                  case rel => exact ⟨k + 1, L ++ cb, by go_num, by omega, HM2.out, HA2.out, HJ2.out, hs8.cast (by simp) (by simp [ss])⟩
                  case measure => simp [intOf]; omega
                · have HM2 : Hid (mrg cs = (mrg (cs.drop (k + 1))).map fun l => (L ++ ca) ++ l) := by show _ = _; rw [hm, mrg_step h5 h3]
                  have t5 : ((ck : Int) == 5) = false := by rw [beq_eq_false_iff_ne]; omega
                  have t3 : ((ck : Int) == 3) = false := by rw [beq_eq_false_iff_ne]; omega
                  have HA2 : Hid ((L ++ ca).length + wa (cs.drop (k + 1)) ≤ wa cs) := by show _ ≤ _; rw [List.length_append]; have := HKA.out; omega
                  have HJ2 : Hid ((joinL (L ++ ca)).length + wj (cs.drop (k + 1)) ≤ wj cs) := by show _ ≤ _; rw [joinL_app, List.length_append]; have := HKJ.out; omega
                  clear hm HM HA HJ h5 h3
                  go_wp2_with (first | (at_builtin; refine wpl_app rfl _ _ 22 rfl Tryd.elStr hm1.tail rfl (by exact hm1.tail.old HDA.out) (ss_one _) (by omega) ?_; intro v8 w8 hs8 _))
                  go_roundw
                  case rel => exact ⟨k + 1, L ++ ca, by go_num, by omega, HM2.out, HA2.out, HJ2.out, hs8.cast (by simp) (by simp [ss])⟩
                  case measure => simp [intOf]; omega
            · have hR2 : mgR o a b = some (joinL L) := by
                rw [HR.out, HM.out, List.drop_of_length_le (by omega)]
                simp [mrg]
              have HP := Mx.hid (fun w' v hs => MgPost.some (o := o) (a := a) (b := b) (w := w) (w' := w') (v := v) hR2 HE.out hs)
              have hja := HJ.out
              have hla := HA.out
              have hjl : (joinL L).length ≤ 140737488355328 := by omega
              have hll : L.length ≤ 8796093022208 := by omega
              clear hR2 hja hla HM HA HJ
              go_wp2_with fail
              refine (join_any _ L _ hs.sl0 hll hjl).mono ?_
              rintro e w5 ⟨v5, rfl, hs5⟩
              go_wp2_with fail
              go_ret3
              exact HP.out _ _ ((HS4.out.call0 hs.bare).call1 hs5)
end Go.Proofs.YtafmgclhgmhflaaDoor
