/- reach's Closure. -/
import Derived.Test.YtloogjdafhjheaaGreatJ12ObjA
import Derived.Test.YtloogjdafhjheaaGreatJ13Met
import Derived.Test.YtloogjdafhjheaaGreatJ16SrtG
import Derived.Deep.LoopGhost
namespace Go.Mx
open Go Go.RowKit
/-- Is a name told? What does it name? -/
def tellB (f : ByteArray → Option (List UInt8)) (id : ByteArray) : Bool := (obO (f id)).2
def nbF (f : ByteArray → Option (List UInt8)) (id : ByteArray) : List ByteArray := if tellB f id = true then refsL (obO (f id)).1 else []
theorem may_few {o : Ob} (h : mayB o = true) : o.items.length ≤ 4294967296 ∧ o.parents.length ≤ 4294967296 := by
  unfold mayB at h
  by_cases h1 : o.kind = 1
  · rw [if_pos h1] at h
    simp only [Bool.and_eq_true, decide_eq_true_eq, bareB] at h
    rw [h.1.2, h.2.2.1]
    simp
  · rw [if_neg h1] at h
    by_cases h2 : o.kind = 2
    · rw [if_pos h2] at h
      simp only [Bool.and_eq_true, decide_eq_true_eq, itemsB, bareB] at h
      have h3 := h.1.2.2
      rw [h.2.2.1]
      exact ⟨by omega, by simp⟩
    · rw [if_neg h2] at h
      by_cases h3 : o.kind = 3
      · rw [if_pos h3] at h
        simp only [Bool.and_eq_true, decide_eq_true_eq, parentsB] at h
        have h4 := h.1.1.1.2.2
        rw [h.1.1.1.1.1.2]
        exact ⟨by simp, by omega⟩
      · rw [if_neg h3] at h
        cases h
theorem nbF_len (f : ByteArray → Option (List UInt8)) (id : ByteArray) : (nbF f id).length ≤ 256 := by
  unfold nbF
  split
  · rename_i h
    exact refs_len (obO_may h)
  · simp
def toldL (f : ByteArray → Option (List UInt8)) (M : List ByteArray) : List ByteArray := M.filter (tellB f)
def lackL (f : ByteArray → Option (List UInt8)) (M : List ByteArray) : List ByteArray := M.filter fun x => !tellB f x
theorem told_snoc (f : ByteArray → Option (List UInt8)) (M : List ByteArray) (x : ByteArray) : toldL f (M ++ [x]) = if tellB f x = true then toldL f M ++ [x] else toldL f M := by
  unfold toldL
  rw [List.filter_append]
  cases h : tellB f x <;> simp [h]
theorem lack_snoc (f : ByteArray → Option (List UInt8)) (M : List ByteArray) (x : ByteArray) : lackL f (M ++ [x]) = if tellB f x = true then lackL f M else lackL f M ++ [x] := by
  unfold lackL
  rw [List.filter_append]
  cases h : tellB f x <;> simp [h]
theorem told_len (f : ByteArray → Option (List UInt8)) (M : List ByteArray) : (toldL f M).length ≤ M.length := List.length_filter_le ..
theorem lack_len (f : ByteArray → Option (List UInt8)) (M : List ByteArray) : (lackL f M).length ≤ M.length := List.length_filter_le ..
theorem Mp.cast {w : World} {b : Nat} {l l' : List Ent} (h : Mp w b l) (e : l = l') : Mp w b l' := e ▸ h
theorem St.q3 {w0 w : World} {R : List Row} {Q : List Rd} {p q r : Rd} {v : Value} {size n : Nat} {xs : List Value} (h : St w0 w R (p :: q :: r :: ⟨v, size, n, xs⟩ :: Q)) : Sl w size v n xs := h.rd ⟨v, size, n, xs⟩ (by simp)
theorem VCQ {w : World} {g n cap : Nat} {cs : List Value} {size : Nat} (h : Sl w size (.slice (some ⟨g, 0, none⟩) n cap) n cs) : VC g cs w := by
  obtain ⟨ao, cap', he, _, _, _, _, hc⟩ := h
  cases he
  intro i u hu
  obtain ⟨a, ha, h2⟩ := hc i u hu
  cases ha
  by_cases h0 : i = 0
  · subst h0; simpa [Addr.add] using h2
  · simpa [Addr.add, h0] using h2
/-- What Closure leaves. -/
def CloPost (f : ByteArray → Option (List UInt8)) (ids : List ByteArray) (most : Nat) (w : World) (e : Ending) (w' : World) : Prop :=
  (∃ v1 v2 M, e = .returned (.tuple #[v1, v2, .int .i64 0]) ∧ St w w' [⟨v1, 9, 1, (toldL f M).length, ss (sortL (toldL f M))⟩, ⟨v2, 9, 1, (lackL f M).length, ss (sortL (lackL f M))⟩] [] ∧ CloN (nbF f) ids M ∧ M.Nodup ∧ M.length ≤ most) ∨
  (e = .returned (.tuple #[.slice none 0 0, .slice none 0 0, .int .i64 14]) ∧ St w w' [] [] ∧ ∃ M : List ByteArray, M.Nodup ∧ (∀ m ∈ M, ∃ i ∈ ids, Rea (nbF f) m i) ∧ most < M.length)
end Go.Mx
namespace Go.Proofs.YtloogjdafhjheaaGreat
open Go.RowKit Go.Mx

theorem Tryz.zeroInt' : ∀ w : World, (zeroValue 3).run Tryz.prog w = .ok (.int .i64 0) w := fun _ => by kernel_rfl
set_option maxRecDepth 200000 in
set_option maxHeartbeats 4000000 in
theorem closure_any (g2 g3 g5 : Nat) (l : List (List UInt8)) (lie : Bool) (v : Value) (ids : List ByteArray) (most : Nat) (w : World) (h : SM w g2 g3 g5 l lie) (hz : ∀ x ∈ l, x.length ≤ 1000000000) (hl : l.length ≤ 1000000) (hv : Sl w 1 v ids.length (ss ids)) (hil : ids.length ≤ 1000000) (hm1 : 1 ≤ most) (hm2 : most ≤ 2000) :
    Calls Tryz.prog 20 #[.func (Fn.func 21) #[] #[.pointer (some ⟨g2, 0, none⟩), .pointer (some ⟨g3, 0, none⟩), .pointer (some ⟨g5, 0, none⟩)], v, .int .i64 (most : Int)] w (CloPost (srcF l lie) ids most w) := by
  have HO := Mx.hid (fun id wx (hs : St w wx [] []) => object_any g2 g3 g5 l lie id wx (h.keep hs) hz hl)
  have HC := Mx.hid (fun w' (hs : St w w' [] []) => sclone_any v ids w' (hs.old hv) (by omega))
  have hmk := @run_makeMap Tryz.prog
  have HW := Mx.hid (within_any (most : Int) w)
  have hw1 : (decide ((1 : Int) ≤ (most : Int)) && decide ((most : Int) ≤ 2000)) = true := by simp; omega
  rw [hw1] at HW
  obtain ⟨ao, cap, rfl, _⟩ := hv.form
  clear h hz hv hw1
  generalize hf : srcF l lie = f at *
  clear hf
  go_enter Tryz.func20, Tryz.ntmps20
  go_wp2_with (go_at_call 23; refine HW.out.mono ?_; rintro e w9 ⟨rfl, rfl⟩)
  refine (HC.out _ ((St.refl w).alloc _)).mono ?_
  rintro e w1 ⟨v1, rfl, hs1⟩
  have HM1 := Mx.hid ((Mp.made w).grow hs1.below)
  replace hs1 := ((St.refl w).alloc _).call1 hs1
  obtain ⟨n0, hn00⟩ : ∃ n0, n0 = 2001 * 300 + ids.length := ⟨_, rfl⟩
  have HN0 := Mx.hid hn00
  have hn0 : n0 ≤ 1700000 := by omega
  clear hn00
  generalize hb2 : w.heap.size = B2 at *
  have HB2 := Mx.hid hb2
  clear hb2
  go_wp2_with fail
  go_loopg [10, 11, 12] n0 (fun kk x y z wr => ∃ Wk M : List ByteArray, Hid ((2001 - M.length) * 300 + Wk.length ≤ kk ∧ kk ≤ n0) ∧ Hid (RJ (nbF f) ids Wk M) ∧ M.length ≤ most ∧ Mp wr B2 (met M) ∧ St w wr [⟨z, 9, 1, Wk.length, ss Wk⟩, ⟨x, 9, 1, (toldL f M).length, ss (toldL f M)⟩, ⟨y, 9, 1, (lackL f M).length, ss (lackL f M)⟩] [])
  case atStart => exact ⟨ids, [], Mx.hid ⟨by rw [HN0.out]; simp, Nat.le_refl _⟩, Mx.hid (RJ.start _ _), by simp, HM1.out, ((hs1.addNil _ _).addNil _ _).perm (List.perm_append_comm (l₁ := [_, _]) (l₂ := [_]))⟩
  case round =>
    clear hs1 HM1
    obtain ⟨Wk, M, HK, HI, hML, hm, hs⟩ := hrel
    by_cases hne : Wk = []
    · subst hne
      have HD := Mx.hid HI.out.done
      have HS1 := Mx.hid (sort_any (toldL f M).length _ (toldL f M) wr (Nat.le_refl _) hs.sl1 (by have := told_len f M; omega))
      have HS2 := Mx.hid (fun wx (h : St wr wx [] []) => sort_any (lackL f M).length _ (lackL f M) wx (Nat.le_refl _) (h.old hs.sl2) (by have := lack_len f M; omega))
      obtain ⟨xa, xc, rfl, _⟩ := id hs.sl0
      obtain ⟨ya, yc, rfl, _⟩ := id hs.sl1
      obtain ⟨za, zc, rfl, _⟩ := id hs.sl2
      clear HI
      go_wp2_with fail
      refine HS1.out.mono ?_
      rintro e w3 ⟨v3, rfl, h3⟩
      go_wp2_with fail
      refine (HS2.out _ h3.bare).mono ?_
      rintro e w4 ⟨v4, rfl, h4⟩
      go_wp2_with fail
      go_ret3
      exact .inl ⟨_, _, M, rfl, ((hs.bare.call h3).call h4).swap, HD.out.1, HD.out.2, hML⟩
    · obtain ⟨Wk', x, rfl⟩ : ∃ Wk' x, Wk = Wk' ++ [x] := ⟨Wk.dropLast, Wk.getLast hne, (List.dropLast_concat_getLast hne).symm⟩
      clear hne
      replace hs := hs.cast (show _ = Wk'.length + 1 by simp) (show _ = ss (Wk' ++ [x]) from rfl)
      obtain ⟨g0, c0, rfl, _, _, hcap, hcap2⟩ := hs.form0 (by omega)
      have c1 := hs.cell (j := Wk'.length) (u := .string x) (by rw [ss_app, List.getElem?_append_right (by rw [ss_len]; omega)]; simp [ss])
      obtain ⟨v1, hcut, hrow⟩ := hs.cutTo (P := Tryz.prog) Tryz.elStr Wk'.length (by omega)
      have hs2 := (hrow _ _ _ hs).cast rfl (show _ = ss Wk' by rw [ss_app, Nat.mul_one, ← ss_len]; exact List.take_left)
      clear hrow hs
      have hKK := HK.out
      have hwk : Wk'.length ≤ 1700000 := by have := HK.out; simp at this; omega
      have HNB := Mx.hid (nbF_len f x)
      have hWI : ∀ y, y ∈ Wk' ++ [x] ↔ y = x ∨ y ∈ Wk' := fun y => by simp [or_comm]
      by_cases hx : x ∈ M
      · have HG := Mx.hid (show mget (met M) x = some (.int .i64 1) by rw [mget_met, if_pos (memB_iff.2 hx)])
        have HI2 := Mx.hid (HI.out.skip hWI hx)
        have HK2 := Mx.hid (show (2001 - M.length) * 300 + Wk'.length < gk ∧ gk ≤ n0 by have := HK.out; simp at this; omega)
        clear hx HI HK hKK hWI
        go_wp2_with ((with_reducible show wpList _ _ _ _ _ _); refine wpl_look rfl 90 _ _ true rfl Tryz.underlying90 Tryz.underlying9 Tryz.zeroInt' (by exact hm) rfl x rfl ?_; rw [HG.out])
        go_roundg ((2001 - M.length) * 300 + Wk'.length)
        case measure => exact HK2.out.1
        case rel => exact ⟨Wk', M, Mx.hid ⟨Nat.le_refl _, Nat.le_of_lt (Nat.lt_of_lt_of_le HK2.out.1 HK2.out.2)⟩, HI2, hML, hm, hs2⟩
      · have HG := Mx.hid (show mget (met M) x = none by rw [mget_met, if_neg (by rw [memB_iff]; exact hx)])
        have HLL := Mx.hid (show (met M).length = M.length by simp [met])
        have HI2 := Mx.hid (HI.out.meet hWI hx (Wk2 := Wk' ++ nbF f x) (fun y => List.mem_append))
        by_cases hlim : most ≤ M.length
        · have HE := Mx.hid (show ∃ M : List ByteArray, M.Nodup ∧ (∀ m ∈ M, ∃ i ∈ ids, Rea (nbF f) m i) ∧ most < M.length from ⟨M ++ [x], HI2.out.d, HI2.out.sub, by simp; omega⟩)
          have q1 : decide ((most : Int) ≤ (M.length : Int)) = true := decide_eq_true (by omega)
          have q2 : decide (most ≤ M.length) = true := decide_eq_true (by omega)
          clear hx HI HK hKK hWI HI2 hlim
          go_wp2_with (first | ((with_reducible show wpList _ _ _ _ _ _); refine wpl_look rfl 90 _ _ true rfl Tryz.underlying90 Tryz.underlying9 Tryz.zeroInt' (by exact hm) rfl x rfl ?_; rw [HG.out]) | ((with_reducible show wpList _ _ _ _ _ _); refine wpl_mlen rfl 90 _ rfl Tryz.underlying90 hm rfl ?_; rw [HLL.out]))
          go_ret3
          exact .inr ⟨rfl, hs2.bare, HE.out⟩
        · have q1 : decide ((most : Int) ≤ (M.length : Int)) = false := decide_eq_false (by omega)
          have q2 : decide (most ≤ M.length) = false := decide_eq_false (by omega)
          have HML2 := Mx.hid (show (M ++ [x]).length ≤ most by simp; omega)
          have HK2 := Mx.hid (show (2001 - (M ++ [x]).length) * 300 + (Wk' ++ nbF f x).length < gk ∧ gk ≤ n0 by have := HK.out; have := HNB.out; simp at *; omega)
          have HMS := Mx.hid (show mset (met M) x (.int .i64 1) = met (M ++ [x]) from mset_met hx)
          have HOX := Mx.hid (fun wx (h : St w wx [] []) => HO.out x wx h)
          have htl : (toldL f M).length ≤ 2000 := Nat.le_trans (told_len f M) (by omega)
          have hll : (lackL f M).length ≤ 2000 := Nat.le_trans (lack_len f M) (by omega)
          have HTS := Mx.hid (told_snoc f M x)
          have HLS := Mx.hid (lack_snoc f M x)
          obtain ⟨q, bb, hqb⟩ : ∃ q bb, obO (f x) = (q, bb) := ⟨_, _, rfl⟩
          have htb : tellB f x = bb := by unfold tellB; rw [hqb]
          have HN := Mx.hid (show nbF f x = if bb = true then refsL q else [] by unfold nbF; rw [htb, hqb])
          have HMAY := Mx.hid (fun (h : bb = true) => may_few (o := q) (by have := obO_may (so := f x) (by rw [hqb]; exact h); rwa [hqb] at this))
          rw [htb] at HTS HLS
          unfold ObjPost at HOX
          rw [hqb] at HOX
          clear hx HI HK hKK hWI hlim hqb htb
          cases bb with
          | false =>
            rw [if_neg (by simp)] at HTS HLS
            go_wp2_with (first | ((with_reducible show wpList _ _ _ _ _ _); refine wpl_look rfl 90 _ _ true rfl Tryz.underlying90 Tryz.underlying9 Tryz.zeroInt' (by exact hm) rfl x rfl ?_; rw [HG.out]) | ((with_reducible show wpList _ _ _ _ _ _); refine wpl_mlen rfl 90 _ rfl Tryz.underlying90 hm rfl ?_; rw [HLL.out]) | ((with_reducible show wpList _ _ _ _ _ _); refine wpl_mset rfl 90 _ _ _ rfl Tryz.underlying90 Tryz.underlying9 (by exact hm) (by exact hs2) (Nat.le_of_eq HB2.out) rfl x rfl ?_; intro w4 hm4 hs4 hg4 hz4; replace hm4 := hm4.cast HMS.out; have HMM := Mx.hid hm4; clear hm4 hg4 hz4))
            refine (HOX.out _ hs4.bare).mono ?_
            rintro e w5 ⟨dv, iv, pv, rfl, hk⟩
            obtain ⟨kq, dq, iq, tq, pq, sq, aq, mq⟩ := q
            obtain ⟨qd1, qd2, rfl, _⟩ := id (show Sl w5 1 dv dq.length (bs dq) from hk.sl0)
            obtain ⟨qi1, qi2, rfl, _⟩ := id (show Sl w5 3 iv iq.length (itms iq) from hk.sl1)
            obtain ⟨qp1, qp2, rfl, _⟩ := id (show Sl w5 1 pv pq.length (ss pq) from hk.sl2)
            clear HOX
            simp only [OV, obR] at hk ⊢
            go_wp2_with (first | (((with_reducible show wpList _ _ _ _ _ _); refine wpl_storeA rfl 56 _ _ rfl Tryz.aObj (hk.madeAt ([.int .i64 (0), .slice none 0 0, .slice none 0 0, .string (str []), .slice none 0 0, .int .i64 (0), .int .i64 (0), .string (str [])]).toArray 56 8 1 _ rfl (by simp [maxLen]) rfl) (0) rfl ([.int .i64 kq, .slice qd1 dq.length qd2, .slice qi1 iq.length qi2, .string tq, .slice qp1 pq.length qp2, .int .i64 sq, .int .i64 aq, .string mq]) rfl (by rfl) (by simp) (by intro u hu; simp at hu; rcases hu with rfl | rfl | rfl | rfl | rfl | rfl | rfl | rfl <;> rfl) ?_; intro w6 hs6); have hB6 := ((hs4.call0 hs6.bare).perm (List.perm_append_comm (l₁ := [_, _]) (l₂ := [_]))).alloc (.cells #[.string x] 9); have HM6 := Mx.hid ((HMM.out.grow hs6.below).grow ((St.refl w6).alloc (.cells #[.string x] 9)).below)) | (at_builtin; refine wpl_appG rfl _ _ 23 rfl Tryz.elStr hB6 rfl (by exact Sl.one _ _ _) (by intro u hu; simp at hu; subst hu; rfl) (by omega) ?_; intro v7 w7 hs7 hg7))
            go_roundg ((2001 - (M ++ [x]).length) * 300 + (Wk' ++ nbF f x).length)
            case measure => exact HK2.out.1
            case rel =>
              refine ⟨Wk' ++ nbF f x, M ++ [x], Mx.hid ⟨Nat.le_refl _, Nat.le_of_lt (Nat.lt_of_lt_of_le HK2.out.1 HK2.out.2)⟩, HI2, HML2.out, HM6.out.kept hg7 (HM6.out.apart (hB6.own _ (List.mem_cons_self ..))), ?_⟩
              rw [HN.out, if_neg (by simp), HTS.out, HLS.out, List.append_nil, ss_app, List.length_append]
              exact hs7.perm (List.perm_append_comm (l₁ := [_]) (l₂ := [_, _]))
          | true =>
            rw [if_pos rfl] at HTS HLS
            rw [if_pos rfl] at HN
            go_wp2_with (first | ((with_reducible show wpList _ _ _ _ _ _); refine wpl_look rfl 90 _ _ true rfl Tryz.underlying90 Tryz.underlying9 Tryz.zeroInt' (by exact hm) rfl x rfl ?_; rw [HG.out]) | ((with_reducible show wpList _ _ _ _ _ _); refine wpl_mlen rfl 90 _ rfl Tryz.underlying90 hm rfl ?_; rw [HLL.out]) | ((with_reducible show wpList _ _ _ _ _ _); refine wpl_mset rfl 90 _ _ _ rfl Tryz.underlying90 Tryz.underlying9 (by exact hm) (by exact hs2) (Nat.le_of_eq HB2.out) rfl x rfl ?_; intro w4 hm4 hs4 hg4 hz4; replace hm4 := hm4.cast HMS.out; have HMM := Mx.hid hm4; clear hm4 hg4 hz4))
            refine (HOX.out _ hs4.bare).mono ?_
            rintro e w5 ⟨dv, iv, pv, rfl, hk⟩
            obtain ⟨kq, dq, iq, tq, pq, sq, aq, mq⟩ := q
            obtain ⟨qd1, qd2, rfl, _⟩ := id (show Sl w5 1 dv dq.length (bs dq) from hk.sl0)
            obtain ⟨qi1, qi2, rfl, _⟩ := id (show Sl w5 3 iv iq.length (itms iq) from hk.sl1)
            obtain ⟨qp1, qp2, rfl, _⟩ := id (show Sl w5 1 pv pq.length (ss pq) from hk.sl2)
            clear HOX
            simp only [OV, obR] at hk ⊢
            have hrl : (refsL ⟨kq, dq, iq, tq, pq, sq, aq, mq⟩).length ≤ 256 := by have := HNB.out; rwa [HN.out] at this
            go_wp2_with (first | (((with_reducible show wpList _ _ _ _ _ _); refine wpl_storeA rfl 56 _ _ rfl Tryz.aObj (hk.madeAt ([.int .i64 (0), .slice none 0 0, .slice none 0 0, .string (str []), .slice none 0 0, .int .i64 (0), .int .i64 (0), .string (str [])]).toArray 56 8 1 _ rfl (by simp [maxLen]) rfl) (0) rfl ([.int .i64 kq, .slice qd1 dq.length qd2, .slice qi1 iq.length qi2, .string tq, .slice qp1 pq.length qp2, .int .i64 sq, .int .i64 aq, .string mq]) rfl (by rfl) (by simp) (by intro u hu; simp at hu; rcases hu with rfl | rfl | rfl | rfl | rfl | rfl | rfl | rfl <;> rfl) ?_; intro w6 hs6); have hB6 := (((((hs4.call hs6).freeze).freeze).freeze).freeze).perm (List.Perm.swap ..)|>.alloc (.cells #[.string x] 9); have HM6 := Mx.hid ((HMM.out.grow hs6.below).grow ((St.refl w6).alloc (.cells #[.string x] 9)).below)) | (at_builtin; refine wpl_appG rfl _ _ 23 rfl Tryz.elStr hB6 rfl (by exact Sl.one _ _ _) (by intro u hu; simp at hu; subst hu; rfl) (by omega) ?_; intro v7 w7 hs7 hg7; have HM7 := Mx.hid (HM6.out.kept hg7 (HM6.out.apart (hB6.own _ (List.mem_cons_self ..))))) | ((with_reducible show wpList _ _ _ _ _ _); refine wpl_loadA rfl 56 _ rfl Tryz.aObj (w5.heap.size) (0) rfl ([.int .i64 kq, .slice qd1 dq.length qd2, .slice qi1 iq.length qi2, .string tq, .slice qp1 pq.length qp2, .int .i64 sq, .int .i64 aq, .string mq]) rfl (VCQ hs7.q3) ?_) | (go_at_call 45; (refine (refs_any _ _ _ ⟨kq, dq, iq, tq, pq, sq, aq, mq⟩ w7 ⟨hs7.q2, hs7.q1, hs7.q0⟩ (HMAY.out (by trivial)).1 (HMAY.out (by trivial)).2).mono ?_; rintro e w8 ⟨vr, rfl, hk8⟩; have hB8 := ((hs7.call1 hk8).freeze.perm (List.Perm.swap ..)); have HM8 := Mx.hid (HM7.out.grow hk8.below))) | (at_builtin; refine wpl_appG rfl _ _ 23 rfl Tryz.elStr hB8 rfl (by exact hB8.q0) (ss_one _) (by omega) ?_; intro v9 w9 hs9 hg9))
            go_roundg ((2001 - (M ++ [x]).length) * 300 + (Wk' ++ nbF f x).length)
            case measure => exact HK2.out.1
            case rel =>
              refine ⟨Wk' ++ nbF f x, M ++ [x], Mx.hid ⟨Nat.le_refl _, Nat.le_of_lt (Nat.lt_of_lt_of_le HK2.out.1 HK2.out.2)⟩, HI2, HML2.out, HM8.out.kept hg9 (HM8.out.apart (hB8.own _ (List.mem_cons_self ..))), ?_⟩
              rw [HN.out, HTS.out, HLS.out, ss_app, ss_app, List.length_append, List.length_append]
              exact hs9.noQ
end Go.Proofs.YtloogjdafhjheaaGreat
