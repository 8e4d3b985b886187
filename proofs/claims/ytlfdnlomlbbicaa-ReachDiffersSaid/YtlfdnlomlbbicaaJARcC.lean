/- reach's Closure. Closures: the plain laws of reach. What marlaw12.first asks: the plain mathematics. The walk of marlaw12.first. The walk of ReachJoins. -/
import Derived.Test.YtlfdnlomlbbicaaJ9RcS
import Derived.Test.YtlfdnlomlbbicaaJDMet
import Derived.Test.YtlfdnlomlbbicaaJBSrt
import Derived.Deep.LoopGhost
import Derived.Test.YtlfdnlomlbbicaaRowLL
namespace Go.Mx
open Go Go.RowKit
/-- Is a name told? What does it name? -/
def tellB (f : ByteArray → Option (List UInt8)) (id : ByteArray) : Bool := (obO (f id)).2
def nbF (f : ByteArray → Option (List UInt8)) (id : ByteArray) : List ByteArray := if tellB f id = true then refsL (obO (f id)).1 else []
theorem may_few {o : Ob} (h : mayB o = true) : o.items.length ≤ 4294967296 ∧ o.parents.length ≤ 4294967296 := by
  unfold mayB at h
  by_cases h1 : o.kind = 1
  · rw [if_pos h1] at h
    simp only [Bool.and_eq_true, decide_eq_true_eq, bareB] at h
    rw [h.1.2, h.2.2.1]
    simp
  · rw [if_neg h1] at h
    by_cases h2 : o.kind = 2
    · rw [if_pos h2] at h
      simp only [Bool.and_eq_true, decide_eq_true_eq, itemsB, bareB] at h
      have h3 := h.1.2.2
      rw [h.2.2.1]
      exact ⟨by omega, by simp⟩
    · rw [if_neg h2] at h
      by_cases h3 : o.kind = 3
      · rw [if_pos h3] at h
        simp only [Bool.and_eq_true, decide_eq_true_eq, parentsB] at h
        have h4 := h.1.1.1.2.2
        rw [h.1.1.1.1.1.2]
        exact ⟨by simp, by omega⟩
      · rw [if_neg h3] at h
        cases h
theorem nbF_len (f : ByteArray → Option (List UInt8)) (id : ByteArray) : (nbF f id).length ≤ 256 := by
  unfold nbF
  split
  · rename_i h
    exact refs_len (obO_may h)
  · simp
def toldL (f : ByteArray → Option (List UInt8)) (M : List ByteArray) : List ByteArray := M.filter (tellB f)
def lackL (f : ByteArray → Option (List UInt8)) (M : List ByteArray) : List ByteArray := M.filter fun x => !tellB f x
theorem told_snoc (f : ByteArray → Option (List UInt8)) (M : List ByteArray) (x : ByteArray) : toldL f (M ++ [x]) = if tellB f x = true then toldL f M ++ [x] else toldL f M := by
  unfold toldL
  rw [List.filter_append]
  cases h : tellB f x <;> simp [h]
theorem lack_snoc (f : ByteArray → Option (List UInt8)) (M : List ByteArray) (x : ByteArray) : lackL f (M ++ [x]) = if tellB f x = true then lackL f M else lackL f M ++ [x] := by
  unfold lackL
  rw [List.filter_append]
  cases h : tellB f x <;> simp [h]
theorem told_len (f : ByteArray → Option (List UInt8)) (M : List ByteArray) : (toldL f M).length ≤ M.length := List.length_filter_le ..
theorem lack_len (f : ByteArray → Option (List UInt8)) (M : List ByteArray) : (lackL f M).length ≤ M.length := List.length_filter_le ..
theorem Mp.cast {w : World} {b : Nat} {l l' : List Ent} (h : Mp w b l) (e : l = l') : Mp w b l' := e ▸ h
theorem St.q3 {w0 w : World} {R : List Row} {Q : List Rd} {p q r : Rd} {v : Value} {size n : Nat} {xs : List Value} (h : St w0 w R (p :: q :: r :: ⟨v, size, n, xs⟩ :: Q)) : Sl w size v n xs := h.rd ⟨v, size, n, xs⟩ (by simp)
theorem VCQ {w : World} {g n cap : Nat} {cs : List Value} {size : Nat} (h : Sl w size (.slice (some ⟨g, 0, none⟩) n cap) n cs) : VC g cs w := by
  obtain ⟨ao, cap', he, _, _, _, _, hc⟩ := h
  cases he
  intro i u hu
  obtain ⟨a, ha, h2⟩ := hc i u hu
  cases ha
  by_cases h0 : i = 0
  · subst h0; simpa [Addr.add] using h2
  · simpa [Addr.add, h0] using h2
/-- What Closure leaves. -/
def CloPost (f : ByteArray → Option (List UInt8)) (ids : List ByteArray) (most : Nat) (w : World) (e : Ending) (w' : World) : Prop :=
  (∃ v1 v2 M, e = .returned (.tuple #[v1, v2, .int .i64 0]) ∧ St w w' [⟨v1, 9, 1, (toldL f M).length, ss (sortL (toldL f M))⟩, ⟨v2, 9, 1, (lackL f M).length, ss (sortL (lackL f M))⟩] [] ∧ CloN (nbF f) ids M ∧ M.Nodup ∧ M.length ≤ most) ∨
  (e = .returned (.tuple #[.slice none 0 0, .slice none 0 0, .int .i64 14]) ∧ St w w' [] [] ∧ ∃ M : List ByteArray, M.Nodup ∧ (∀ m ∈ M, ∃ i ∈ ids, Rea (nbF f) m i) ∧ most < M.length)
end Go.Mx
namespace Go.Proofs.Ytlfdnlomlbbicaa
open Go.RowKit Go.Mx

theorem Try.zeroInt' : ∀ w : World, (zeroValue 3).run Try.prog w = .ok (.int .i64 0) w := fun _ => by kernel_rfl
set_option maxRecDepth 200000 in
set_option maxHeartbeats 4000000 in
theorem closure_any (g2 g3 g5 : Nat) (l : List (List UInt8)) (lie : Bool) (v : Value) (ids : List ByteArray) (most : Nat) (w : World) (h : SM w g2 g3 g5 l lie) (hz : ∀ x ∈ l, x.length ≤ 1000000000) (hl : l.length ≤ 1000000) (hv : Sl w 1 v ids.length (ss ids)) (hil : ids.length ≤ 1000000) (hm1 : 1 ≤ most) (hm2 : most ≤ 2000) :
    Calls Try.prog 27 #[.func (Fn.func 56) #[] #[.pointer (some ⟨g2, 0, none⟩), .pointer (some ⟨g3, 0, none⟩), .pointer (some ⟨g5, 0, none⟩)], v, .int .i64 (most : Int)] w (CloPost (srcF l lie) ids most w) := by
  have HO := Mx.hid (fun id wx (hs : St w wx [] []) => object_any g2 g3 g5 l lie id wx (h.keep hs) hz hl)
  have HC := Mx.hid (fun w' (hs : St w w' [] []) => sclone_any v ids w' (hs.old hv) (by omega))
  have hmk := @run_makeMap Try.prog
  have HW := Mx.hid (within_any (most : Int) w)
  have hw1 : (decide ((1 : Int) ≤ (most : Int)) && decide ((most : Int) ≤ 2000)) = true := by simp; omega
  rw [hw1] at HW
  obtain ⟨ao, cap, rfl, _⟩ := hv.form
  clear h hz hv hw1
  generalize hf : srcF l lie = f at *
  clear hf
  go_enter Try.func27, Try.ntmps27
  go_wp2_with (go_at_call 57; refine HW.out.mono ?_; rintro e w9 ⟨rfl, rfl⟩)
  refine (HC.out _ ((St.refl w).alloc _)).mono ?_
  rintro e w1 ⟨v1, rfl, hs1⟩
  have HM1 := Mx.hid ((Mp.made w).grow hs1.below)
  replace hs1 := ((St.refl w).alloc _).call1 hs1
  obtain ⟨n0, hn00⟩ : ∃ n0, n0 = 2001 * 300 + ids.length := ⟨_, rfl⟩
  have HN0 := Mx.hid hn00
  have hn0 : n0 ≤ 1700000 := by omega
  clear hn00
  generalize hb2 : w.heap.size = B2 at *
  have HB2 := Mx.hid hb2
  clear hb2
  go_wp2_with fail
  go_loopg [10, 11, 12] n0 (fun kk x y z wr => ∃ Wk M : List ByteArray, Hid ((2001 - M.length) * 300 + Wk.length ≤ kk ∧ kk ≤ n0) ∧ Hid (RJ (nbF f) ids Wk M) ∧ M.length ≤ most ∧ Mp wr B2 (met M) ∧ St w wr [⟨z, 9, 1, Wk.length, ss Wk⟩, ⟨x, 9, 1, (toldL f M).length, ss (toldL f M)⟩, ⟨y, 9, 1, (lackL f M).length, ss (lackL f M)⟩] [])
  case atStart => exact ⟨ids, [], Mx.hid ⟨by rw [HN0.out]; simp, Nat.le_refl _⟩, Mx.hid (RJ.start _ _), by simp, HM1.out, ((hs1.addNil _ _).addNil _ _).perm (List.perm_append_comm (l₁ := [_, _]) (l₂ := [_]))⟩
  case round =>
    clear hs1 HM1
    obtain ⟨Wk, M, HK, HI, hML, hm, hs⟩ := hrel
    by_cases hne : Wk = []
    · subst hne
      have HD := Mx.hid HI.out.done
      have HS1 := Mx.hid (sort_any (toldL f M).length _ (toldL f M) wr (Nat.le_refl _) hs.sl1 (by have := told_len f M; omega))
      have HS2 := Mx.hid (fun wx (h : St wr wx [] []) => sort_any (lackL f M).length _ (lackL f M) wx (Nat.le_refl _) (h.old hs.sl2) (by have := lack_len f M; omega))
      obtain ⟨xa, xc, rfl, _⟩ := id hs.sl0
      obtain ⟨ya, yc, rfl, _⟩ := id hs.sl1
      obtain ⟨za, zc, rfl, _⟩ := id hs.sl2
      clear HI
      go_wp2_with fail
      refine HS1.out.mono ?_
      rintro e w3 ⟨v3, rfl, h3⟩
      go_wp2_with fail
      refine (HS2.out _ h3.bare).mono ?_
      rintro e w4 ⟨v4, rfl, h4⟩
      go_wp2_with fail
      go_ret3
      exact .inl ⟨_, _, M, rfl, ((hs.bare.call h3).call h4).swap, HD.out.1, HD.out.2, hML⟩
    · obtain ⟨Wk', x, rfl⟩ : ∃ Wk' x, Wk = Wk' ++ [x] := ⟨Wk.dropLast, Wk.getLast hne, (List.dropLast_concat_getLast hne).symm⟩
      clear hne
      replace hs := hs.cast (show _ = Wk'.length + 1 by simp) (show _ = ss (Wk' ++ [x]) from rfl)
      obtain ⟨g0, c0, rfl, _, _, hcap, hcap2⟩ := hs.form0 (by omega)
      have c1 := hs.cell (j := Wk'.length) (u := .string x) (by rw [ss_app, List.getElem?_append_right (by rw [ss_len]; omega)]; simp [ss])
      obtain ⟨v1, hcut, hrow⟩ := hs.cutTo (P := Try.prog) Try.elStr Wk'.length (by omega)
      have hs2 := (hrow _ _ _ hs).cast rfl (show _ = ss Wk' by rw [ss_app, Nat.mul_one, ← ss_len]; exact List.take_left)
      clear hrow hs
      have hKK := HK.out
      have hwk : Wk'.length ≤ 1700000 := by have := HK.out; simp at this; omega
      have HNB := Mx.hid (nbF_len f x)
      have hWI : ∀ y, y ∈ Wk' ++ [x] ↔ y = x ∨ y ∈ Wk' := fun y => by simp [or_comm]
      by_cases hx : x ∈ M
      · have HG := Mx.hid (show mget (met M) x = some (.int .i64 1) by rw [mget_met, if_pos (memB_iff.2 hx)])
        have HI2 := Mx.hid (HI.out.skip hWI hx)
        have HK2 := Mx.hid (show (2001 - M.length) * 300 + Wk'.length < gk ∧ gk ≤ n0 by have := HK.out; simp at this; omega)
        clear hx HI HK hKK hWI
        go_wp2_with ((with_reducible show wpList _ _ _ _ _ _); refine wpl_look rfl 83 _ _ true rfl Try.underlying83 Try.underlying9 Try.zeroInt' (by exact hm) rfl x rfl ?_; rw [HG.out])
        go_roundg ((2001 - M.length) * 300 + Wk'.length)
        case measure => exact HK2.out.1
        case rel => exact ⟨Wk', M, Mx.hid ⟨Nat.le_refl _, Nat.le_of_lt (Nat.lt_of_lt_of_le HK2.out.1 HK2.out.2)⟩, HI2, hML, hm, hs2⟩
      · have HG := Mx.hid (show mget (met M) x = none by rw [mget_met, if_neg (by rw [memB_iff]; exact hx)])
        have HLL := Mx.hid (show (met M).length = M.length by simp [met])
        have HI2 := Mx.hid (HI.out.meet hWI hx (Wk2 := Wk' ++ nbF f x) (fun y => List.mem_append))
        by_cases hlim : most ≤ M.length
        · have HE := Mx.hid (show ∃ M : List ByteArray, M.Nodup ∧ (∀ m ∈ M, ∃ i ∈ ids, Rea (nbF f) m i) ∧ most < M.length from ⟨M ++ [x], HI2.out.d, HI2.out.sub, by simp; omega⟩)
          have q1 : decide ((most : Int) ≤ (M.length : Int)) = true := decide_eq_true (by omega)
          have q2 : decide (most ≤ M.length) = true := decide_eq_true (by omega)
          clear hx HI HK hKK hWI HI2 hlim
          go_wp2_with (first | ((with_reducible show wpList _ _ _ _ _ _); refine wpl_look rfl 83 _ _ true rfl Try.underlying83 Try.underlying9 Try.zeroInt' (by exact hm) rfl x rfl ?_; rw [HG.out]) | ((with_reducible show wpList _ _ _ _ _ _); refine wpl_mlen rfl 83 _ rfl Try.underlying83 hm rfl ?_; rw [HLL.out]))
          go_ret3
          exact .inr ⟨rfl, hs2.bare, HE.out⟩
        · have q1 : decide ((most : Int) ≤ (M.length : Int)) = false := decide_eq_false (by omega)
          have q2 : decide (most ≤ M.length) = false := decide_eq_false (by omega)
          have HML2 := Mx.hid (show (M ++ [x]).length ≤ most by simp; omega)
          have HK2 := Mx.hid (show (2001 - (M ++ [x]).length) * 300 + (Wk' ++ nbF f x).length < gk ∧ gk ≤ n0 by have := HK.out; have := HNB.out; simp at *; omega)
          have HMS := Mx.hid (show mset (met M) x (.int .i64 1) = met (M ++ [x]) from mset_met hx)
          have HOX := Mx.hid (fun wx (h : St w wx [] []) => HO.out x wx h)
          have htl : (toldL f M).length ≤ 2000 := Nat.le_trans (told_len f M) (by omega)
          have hll : (lackL f M).length ≤ 2000 := Nat.le_trans (lack_len f M) (by omega)
          have HTS := Mx.hid (told_snoc f M x)
          have HLS := Mx.hid (lack_snoc f M x)
          obtain ⟨q, bb, hqb⟩ : ∃ q bb, obO (f x) = (q, bb) := ⟨_, _, rfl⟩
          have htb : tellB f x = bb := by unfold tellB; rw [hqb]
          have HN := Mx.hid (show nbF f x = if bb = true then refsL q else [] by unfold nbF; rw [htb, hqb])
          have HMAY := Mx.hid (fun (h : bb = true) => may_few (o := q) (by have := obO_may (so := f x) (by rw [hqb]; exact h); rwa [hqb] at this))
          rw [htb] at HTS HLS
          unfold ObjPost at HOX
          rw [hqb] at HOX
          clear hx HI HK hKK hWI hlim hqb htb
          cases bb with
          | false =>
            rw [if_neg (by simp)] at HTS HLS
            go_wp2_with (first | ((with_reducible show wpList _ _ _ _ _ _); refine wpl_look rfl 83 _ _ true rfl Try.underlying83 Try.underlying9 Try.zeroInt' (by exact hm) rfl x rfl ?_; rw [HG.out]) | ((with_reducible show wpList _ _ _ _ _ _); refine wpl_mlen rfl 83 _ rfl Try.underlying83 hm rfl ?_; rw [HLL.out]) | ((with_reducible show wpList _ _ _ _ _ _); refine wpl_mset rfl 83 _ _ _ rfl Try.underlying83 Try.underlying9 (by exact hm) (by exact hs2) (Nat.le_of_eq HB2.out) rfl x rfl ?_; intro w4 hm4 hs4 hg4 hz4; replace hm4 := hm4.cast HMS.out; have HMM := Mx.hid hm4; clear hm4 hg4 hz4))
            refine (HOX.out _ hs4.bare).mono ?_
            rintro e w5 ⟨dv, iv, pv, rfl, hk⟩
            obtain ⟨kq, dq, iq, tq, pq, sq, aq, mq⟩ := q
            obtain ⟨qd1, qd2, rfl, _⟩ := id (show Sl w5 1 dv dq.length (bs dq) from hk.sl0)
            obtain ⟨qi1, qi2, rfl, _⟩ := id (show Sl w5 3 iv iq.length (itms iq) from hk.sl1)
            obtain ⟨qp1, qp2, rfl, _⟩ := id (show Sl w5 1 pv pq.length (ss pq) from hk.sl2)
            clear HOX
            simp only [OV, obR] at hk ⊢
            go_wp2_with (first | (((with_reducible show wpList _ _ _ _ _ _); refine wpl_storeA rfl 26 _ _ rfl Try.aObj (hk.madeAt ([.int .i64 (0), .slice none 0 0, .slice none 0 0, .string (str []), .slice none 0 0, .int .i64 (0), .int .i64 (0), .string (str [])]).toArray 26 8 1 _ rfl (by simp [maxLen]) rfl) (0) rfl ([.int .i64 kq, .slice qd1 dq.length qd2, .slice qi1 iq.length qi2, .string tq, .slice qp1 pq.length qp2, .int .i64 sq, .int .i64 aq, .string mq]) rfl (by rfl) (by simp) (by intro u hu; simp at hu; rcases hu with rfl | rfl | rfl | rfl | rfl | rfl | rfl | rfl <;> rfl) ?_; intro w6 hs6); have hB6 := ((hs4.call0 hs6.bare).perm (List.perm_append_comm (l₁ := [_, _]) (l₂ := [_]))).alloc (.cells #[.string x] 9); have HM6 := Mx.hid ((HMM.out.grow hs6.below).grow ((St.refl w6).alloc (.cells #[.string x] 9)).below)) | (at_builtin; refine wpl_appG rfl _ _ 24 rfl Try.elStr hB6 rfl (by exact Sl.one _ _ _) (by intro u hu; simp at hu; subst hu; rfl) (by omega) ?_; intro v7 w7 hs7 hg7))
            go_roundg ((2001 - (M ++ [x]).length) * 300 + (Wk' ++ nbF f x).length)
            case measure => exact HK2.out.1
            case rel =>
              refine ⟨Wk' ++ nbF f x, M ++ [x], Mx.hid ⟨Nat.le_refl _, Nat.le_of_lt (Nat.lt_of_lt_of_le HK2.out.1 HK2.out.2)⟩, HI2, HML2.out, HM6.out.kept hg7 (HM6.out.apart (hB6.own _ (List.mem_cons_self ..))), ?_⟩
              rw [HN.out, if_neg (by simp), HTS.out, HLS.out, List.append_nil, ss_app, List.length_append]
              exact hs7.perm (List.perm_append_comm (l₁ := [_]) (l₂ := [_, _]))
          | true =>
            rw [if_pos rfl] at HTS HLS
            rw [if_pos rfl] at HN
            go_wp2_with (first | ((with_reducible show wpList _ _ _ _ _ _); refine wpl_look rfl 83 _ _ true rfl Try.underlying83 Try.underlying9 Try.zeroInt' (by exact hm) rfl x rfl ?_; rw [HG.out]) | ((with_reducible show wpList _ _ _ _ _ _); refine wpl_mlen rfl 83 _ rfl Try.underlying83 hm rfl ?_; rw [HLL.out]) | ((with_reducible show wpList _ _ _ _ _ _); refine wpl_mset rfl 83 _ _ _ rfl Try.underlying83 Try.underlying9 (by exact hm) (by exact hs2) (Nat.le_of_eq HB2.out) rfl x rfl ?_; intro w4 hm4 hs4 hg4 hz4; replace hm4 := hm4.cast HMS.out; have HMM := Mx.hid hm4; clear hm4 hg4 hz4))
            refine (HOX.out _ hs4.bare).mono ?_
            rintro e w5 ⟨dv, iv, pv, rfl, hk⟩
            obtain ⟨kq, dq, iq, tq, pq, sq, aq, mq⟩ := q
            obtain ⟨qd1, qd2, rfl, _⟩ := id (show Sl w5 1 dv dq.length (bs dq) from hk.sl0)
            obtain ⟨qi1, qi2, rfl, _⟩ := id (show Sl w5 3 iv iq.length (itms iq) from hk.sl1)
            obtain ⟨qp1, qp2, rfl, _⟩ := id (show Sl w5 1 pv pq.length (ss pq) from hk.sl2)
            clear HOX
            simp only [OV, obR] at hk ⊢
            have hrl : (refsL ⟨kq, dq, iq, tq, pq, sq, aq, mq⟩).length ≤ 256 := by have := HNB.out; rwa [HN.out] at this
            go_wp2_with (first | (((with_reducible show wpList _ _ _ _ _ _); refine wpl_storeA rfl 26 _ _ rfl Try.aObj (hk.madeAt ([.int .i64 (0), .slice none 0 0, .slice none 0 0, .string (str []), .slice none 0 0, .int .i64 (0), .int .i64 (0), .string (str [])]).toArray 26 8 1 _ rfl (by simp [maxLen]) rfl) (0) rfl ([.int .i64 kq, .slice qd1 dq.length qd2, .slice qi1 iq.length qi2, .string tq, .slice qp1 pq.length qp2, .int .i64 sq, .int .i64 aq, .string mq]) rfl (by rfl) (by simp) (by intro u hu; simp at hu; rcases hu with rfl | rfl | rfl | rfl | rfl | rfl | rfl | rfl <;> rfl) ?_; intro w6 hs6); have hB6 := (((((hs4.call hs6).freeze).freeze).freeze).freeze).perm (List.Perm.swap ..)|>.alloc (.cells #[.string x] 9); have HM6 := Mx.hid ((HMM.out.grow hs6.below).grow ((St.refl w6).alloc (.cells #[.string x] 9)).below)) | (at_builtin; refine wpl_appG rfl _ _ 24 rfl Try.elStr hB6 rfl (by exact Sl.one _ _ _) (by intro u hu; simp at hu; subst hu; rfl) (by omega) ?_; intro v7 w7 hs7 hg7; have HM7 := Mx.hid (HM6.out.kept hg7 (HM6.out.apart (hB6.own _ (List.mem_cons_self ..))))) | ((with_reducible show wpList _ _ _ _ _ _); refine wpl_loadA rfl 26 _ rfl Try.aObj (w5.heap.size) (0) rfl ([.int .i64 kq, .slice qd1 dq.length qd2, .slice qi1 iq.length qi2, .string tq, .slice qp1 pq.length qp2, .int .i64 sq, .int .i64 aq, .string mq]) rfl (VCQ hs7.q3) ?_) | (go_at_call 21; (refine (refs_any _ _ _ ⟨kq, dq, iq, tq, pq, sq, aq, mq⟩ w7 ⟨hs7.q2, hs7.q1, hs7.q0⟩ (HMAY.out (by trivial)).1 (HMAY.out (by trivial)).2).mono ?_; rintro e w8 ⟨vr, rfl, hk8⟩; have hB8 := ((hs7.call1 hk8).freeze.perm (List.Perm.swap ..)); have HM8 := Mx.hid (HM7.out.grow hk8.below))) | (at_builtin; refine wpl_appG rfl _ _ 24 rfl Try.elStr hB8 rfl (by exact hB8.q0) (ss_one _) (by omega) ?_; intro v9 w9 hs9 hg9))
            go_roundg ((2001 - (M ++ [x]).length) * 300 + (Wk' ++ nbF f x).length)
            case measure => exact HK2.out.1
            case rel =>
              refine ⟨Wk' ++ nbF f x, M ++ [x], Mx.hid ⟨Nat.le_refl _, Nat.le_of_lt (Nat.lt_of_lt_of_le HK2.out.1 HK2.out.2)⟩, HI2, HML2.out, HM8.out.kept hg9 (HM8.out.apart (hB8.own _ (List.mem_cons_self ..))), ?_⟩
              rw [HN.out, HTS.out, HLS.out, ss_app, ss_app, List.length_append, List.length_append]
              exact hs9.noQ
end Go.Proofs.Ytlfdnlomlbbicaa

namespace Go.Mx
open Go Go.RowKit
theorem flat_ge {α : Type} (f : α → List UInt8) (l : List α) (h : ∀ x ∈ l, 32 ≤ (f x).length) : 32 * l.length ≤ (l.flatMap f).length := by
  induction l with
  | nil => simp
  | cons x l ih =>
    have h1 := h x (List.mem_cons_self ..)
    have h2 := ih fun y hy => h y (List.mem_cons_of_mem _ hy)
    simp only [List.flatMap_cons, List.length_append, List.length_cons]
    omega
theorem refs_enc {o : Ob} (h : mayB o = true) : 32 * (refsL o).length ≤ (encL o).length := by
  unfold mayB at h
  unfold refsL encL
  by_cases h1 : o.kind = 1
  · rw [if_neg (by omega), if_neg (by omega)]; simp
  · rw [if_neg h1] at h
    rw [if_neg h1]
    by_cases h2 : o.kind = 2
    · rw [if_pos h2] at h
      rw [if_pos h2, if_pos h2]
      simp only [Bool.and_eq_true, decide_eq_true_eq, itemsB] at h
      have h3 := flat_ge itemL o.items (fun x hx => by
        have h4 := List.all_eq_true.1 h.1.2.1.1 x hx
        simp only [itemB, Bool.and_eq_true] at h4
        have := raw_len h4.2
        simp only [itemL, List.length_cons, List.length_append]
        omega)
      simp only [List.length_map, List.length_cons, List.length_append]
      omega
    · rw [if_neg h2] at h
      rw [if_neg h2, if_neg h2]
      by_cases h3 : o.kind = 3
      · rw [if_pos h3] at h
        rw [if_pos h3]
        simp only [Bool.and_eq_true, decide_eq_true_eq, parentsB] at h
        have h5 := raw_len h.1.1.1.1.2
        have h6 := flat_ge rawL o.parents (fun x hx => by have := raw_len (List.all_eq_true.1 h.1.1.1.2.1.1 x hx); omega)
        simp only [List.length_cons, List.length_append]
        omega
      · rw [if_neg h3] at h; cases h
/-- What a text names. -/
def obRefs (b : List UInt8) : List ByteArray := if (obO (some b)).2 = true then refsL (obO (some b)).1 else []
theorem obRefs_len (b : List UInt8) : 32 * (obRefs b).length ≤ b.length := by
  unfold obRefs
  split
  · rename_i h
    have h2 : (decO b).2 = 0 := of_decide_eq_true h
    have h3 := dec_ok (b := b) (o := (decO b).1) (Prod.ext rfl h2)
    have h4 := refs_enc h3.1
    rw [h3.2] at h4
    exact h4
  · simp
theorem flatRefs_len (l : List (List UInt8)) : 32 * (l.flatMap obRefs).length ≤ (l.map List.length).sum := by
  induction l with
  | nil => simp
  | cons x l ih =>
    have := obRefs_len x
    simp only [List.flatMap_cons, List.length_append, List.map_cons, List.sum_cons]
    omega
theorem nbF_src (l : List (List UInt8)) (lie : Bool) (x : ByteArray) : ∀ p ∈ nbF (srcF l lie) x, p ∈ l.flatMap obRefs := by
  intro p hp
  unfold nbF tellB at hp
  cases hs : srcF l lie x with
  | none => rw [hs] at hp; simp [obO] at hp
  | some b =>
    rw [hs] at hp
    exact List.mem_flatMap.2 ⟨b, srcI_mem hs, hp⟩
theorem reach_len {l : List (List UInt8)} {lie : Bool} {ids M : List ByteArray} (hn : M.Nodup) (h : ∀ m ∈ M, ∃ i ∈ ids, Rea (nbF (srcF l lie)) m i) : 32 * M.length ≤ 32 * ids.length + (l.map List.length).sum := by
  have h1 := nodup_sub hn (K := ids ++ l.flatMap obRefs) (fun m hm => by
    obtain ⟨i, hi, hr⟩ := h m hm
    exact rt_in (ids := ids) (fun i hi => List.mem_append_left _ hi) (fun y p hp => List.mem_append_right _ (nbF_src l lie y p hp)) hi hr)
  have h2 := flatRefs_len l
  simp only [List.length_append] at h1
  omega
theorem strict_sort {S : List ByteArray} (h : S.Nodup) : Strict (sortL S) := by
  have h1 := sortL_sorted S
  have h2 : (sortL S).Nodup := (sortL_perm S).nodup_iff.2 h
  unfold Strict
  refine List.Pairwise.imp (fun {a b} (hab : lt b a = false ∧ a ≠ b) => ?_) (List.pairwise_and_iff.2 ⟨h1, h2⟩)
  cases hl : lt a b with
  | true => rfl
  | false => exact absurd (lt_total hl hab.1) hab.2
theorem sort_uniq {S T : List ByteArray} (hS : S.Nodup) (h : ∀ x, x ∈ S ↔ x ∈ T) : sortL S = uniqL T := eq_uniqL (strict_sort hS) fun x => (sortL_perm S).mem_iff.trans (h x)
theorem mem_told {f : ByteArray → Option (List UInt8)} {M : List ByteArray} {x : ByteArray} : x ∈ toldL f M ↔ x ∈ M ∧ tellB f x = true := List.mem_filter
theorem mem_lack {f : ByteArray → Option (List UInt8)} {M : List ByteArray} {x : ByteArray} : x ∈ lackL f M ↔ x ∈ M ∧ tellB f x = false := by
  unfold lackL
  rw [List.mem_filter]
  simp
theorem told_nodup {f : ByteArray → Option (List UInt8)} {M : List ByteArray} (h : M.Nodup) : (toldL f M).Nodup := h.sublist (List.filter_sublist ..)
theorem lack_nodup {f : ByteArray → Option (List UInt8)} {M : List ByteArray} (h : M.Nodup) : (lackL f M).Nodup := h.sublist (List.filter_sublist ..)
theorem CloN.app {nb : ByteArray → List ByteArray} {a b M N K : List ByteArray} (h1 : CloN nb a M) (h2 : CloN nb b N) (h3 : CloN nb (b ++ a) K) (x : ByteArray) : x ∈ K ↔ x ∈ M ∨ x ∈ N := by
  rw [h3 x, h1 x, h2 x]
  constructor
  · rintro ⟨i, hi, hr⟩
    rcases List.mem_append.1 hi with hi | hi
    · exact .inr ⟨i, hi, hr⟩
    · exact .inl ⟨i, hi, hr⟩
  · rintro (⟨i, hi, hr⟩ | ⟨i, hi, hr⟩)
    · exact ⟨i, List.mem_append_right _ hi, hr⟩
    · exact ⟨i, List.mem_append_left _ hi, hr⟩
theorem told_join {f : ByteArray → Option (List UInt8)} {a b M N K : List ByteArray} (h1 : CloN (nbF f) a M) (h2 : CloN (nbF f) b N) (h3 : CloN (nbF f) (b ++ a) K) (hn : K.Nodup) : sortL (toldL f K) = uniqL (sortL (toldL f M) ++ sortL (toldL f N)) := by
  refine sort_uniq (told_nodup hn) fun x => ?_
  rw [List.mem_append, (sortL_perm _).mem_iff, (sortL_perm _).mem_iff, mem_told, mem_told, mem_told, CloN.app h1 h2 h3 x]
  constructor
  · rintro ⟨h | h, h'⟩
    · exact .inl ⟨h, h'⟩
    · exact .inr ⟨h, h'⟩
  · rintro (⟨h, h'⟩ | ⟨h, h'⟩)
    · exact ⟨.inl h, h'⟩
    · exact ⟨.inr h, h'⟩
theorem lack_join {f : ByteArray → Option (List UInt8)} {a b M N K : List ByteArray} (h1 : CloN (nbF f) a M) (h2 : CloN (nbF f) b N) (h3 : CloN (nbF f) (b ++ a) K) (hn : K.Nodup) : sortL (lackL f K) = uniqL (sortL (lackL f M) ++ sortL (lackL f N)) := by
  refine sort_uniq (lack_nodup hn) fun x => ?_
  rw [List.mem_append, (sortL_perm _).mem_iff, (sortL_perm _).mem_iff, mem_lack, mem_lack, mem_lack, CloN.app h1 h2 h3 x]
  constructor
  · rintro ⟨h | h, h'⟩
    · exact .inl ⟨h, h'⟩
    · exact .inr ⟨h, h'⟩
  · rintro (⟨h, h'⟩ | ⟨h, h'⟩)
    · exact ⟨.inl h, h'⟩
    · exact ⟨.inr h, h'⟩
theorem again_sub {f : ByteArray → Option (List UInt8)} {a M K : List ByteArray} (h1 : CloN (nbF f) a M) (h2 : CloN (nbF f) (sortL (toldL f M)) K) : ∀ x ∈ K, x ∈ M := by
  intro x hx
  obtain ⟨i, hi, hr⟩ := (h2 x).1 hx
  obtain ⟨j, hj, hr2⟩ := (h1 i).1 (mem_told.1 ((sortL_perm _).mem_iff.1 hi)).1
  exact (h1 x).2 ⟨j, hj, hr.trans hr2⟩
theorem again_told {f : ByteArray → Option (List UInt8)} {a M K : List ByteArray} (h1 : CloN (nbF f) a M) (hM : M.Nodup) (h2 : CloN (nbF f) (sortL (toldL f M)) K) (hK : K.Nodup) : sortL (toldL f K) = sortL (toldL f M) := by
  refine strict_eq (strict_sort (told_nodup hK)) (strict_sort (told_nodup hM)) fun x => ?_
  rw [(sortL_perm _).mem_iff, (sortL_perm _).mem_iff, mem_told, mem_told]
  constructor
  · rintro ⟨h, h'⟩
    exact ⟨again_sub h1 h2 x h, h'⟩
  · rintro ⟨h, h'⟩
    exact ⟨(h2 x).2 ⟨x, (sortL_perm _).mem_iff.2 (mem_told.2 ⟨h, h'⟩), .refl x⟩, h'⟩
theorem again_lack {f : ByteArray → Option (List UInt8)} {a M K : List ByteArray} (h1 : CloN (nbF f) a M) (h2 : CloN (nbF f) (sortL (toldL f M)) K) (hK : K.Nodup) : (lackL f K).length ≤ (lackL f M).length :=
  nodup_sub (lack_nodup hK) fun x hx => mem_lack.2 ⟨again_sub h1 h2 x (mem_lack.1 hx).1, (mem_lack.1 hx).2⟩
end Go.Mx

namespace Go.Mx
open Go Go.RowKit
def obC : Ob := ⟨3, [], [], idB [2, 0], [], 0, 0, str []⟩
def obT : Ob := ⟨2, [], [], str [], [], 0, 0, str []⟩
def btC : List UInt8 := [3, 153, 190, 94, 251, 136, 202, 32, 19, 189, 142, 78, 176, 53, 253, 66, 213, 36, 84, 104, 254, 154, 250, 112, 216, 186, 156, 28, 65, 154, 72, 196, 232, 0, 0, 0, 0]
set_option maxRecDepth 100000 in
theorem may_c : mayB obC = true := by decide +kernel
theorem may_t : mayB obT = true := by decide +kernel
set_option maxRecDepth 100000 in
theorem raw_c : rawL (idB [2, 0]) = [153, 190, 94, 251, 136, 202, 32, 19, 189, 142, 78, 176, 53, 253, 66, 213, 36, 84, 104, 254, 154, 250, 112, 216, 186, 156, 28, 65, 154, 72, 196, 232] := by decide +kernel
theorem enc_t : encL obT = [2, 0] := by
  unfold encL
  rw [if_neg (by decide), if_pos (show obT.kind = 2 from rfl)]
  show 2 :: (putL 0 ++ []) = _
  rw [putL]
  rfl
theorem enc_c : encL obC = btC := by
  unfold encL
  rw [if_neg (by decide), if_neg (by decide)]
  show 3 :: (rawL (idB [2, 0]) ++ (UInt8.ofNat 0 :: []) ++ putL 0 ++ putL 0 ++ putL (str []).size ++ bL (str [])) = btC
  rw [str_size, raw_c, show ([] : List UInt8).length = 0 from rfl, putL]
  kernel_rfl
set_option maxRecDepth 100000 in
theorem id_ne : idB btC ≠ idB [2, 0] := by decide +kernel
theorem ob_c : obO (some btC) = (obC, true) := by
  have h := dec_enc may_c
  rw [enc_c] at h
  show ((decO btC).1, decide ((decO btC).2 = 0)) = _
  rw [h]
  rfl
theorem ob_t : obO (some [2, 0]) = (obT, true) := by
  have h := dec_enc may_t
  rw [enc_t] at h
  show ((decO [2, 0]).1, decide ((decO [2, 0]).2 = 0)) = _
  rw [h]
  rfl
theorem src_t : srcF [[2, 0], btC] false (idB [2, 0]) = some [2, 0] := by
  unfold srcF
  rw [srcI, if_pos (by simp), if_pos (by rfl)]
  rfl
theorem src_c : srcF [[2, 0], btC] false (idB btC) = some btC := by
  unfold srcF
  rw [srcI, if_pos (by simp), if_neg (fun h => id_ne (show idB btC = idB [2, 0] from h.symm)), srcI, if_pos (by simp), if_pos (by rfl)]
  rfl
theorem refs_c : obRefs btC = [idB [2, 0]] := by unfold obRefs; rw [ob_c]; rfl
theorem refs_t : obRefs [2, 0] = [] := by unfold obRefs; rw [ob_t]; rfl
theorem first_clo {M : List ByteArray} (h : CloN (nbF (srcF [[2, 0], btC] false)) [idB btC] M) (hn : M.Nodup) : (toldL (srcF [[2, 0], btC] false) M).length = 2 ∧ lackL (srcF [[2, 0], btC] false) M = [] := by
  have hc : idB btC ∈ M := (h _).2 ⟨_, List.mem_singleton.2 rfl, .refl _⟩
  have ht : idB [2, 0] ∈ M := (h _).2 ⟨_, List.mem_singleton.2 rfl, .step (p := idB [2, 0]) (by unfold nbF tellB; rw [src_c, ob_c]; exact List.mem_singleton.2 rfl) (.refl _)⟩
  have hin : ∀ m ∈ M, m = idB btC ∨ m = idB [2, 0] := by
    intro m hm
    obtain ⟨i, hi, hr⟩ := (h m).1 hm
    have h1 := rt_in (U := [idB btC, idB [2, 0]]) (ids := [idB btC]) (fun i hi => by rw [List.mem_singleton.1 hi]; exact List.mem_cons_self ..) (fun y p hp => by
      have h2 := nbF_src _ false y p hp
      rw [List.flatMap_cons, List.flatMap_cons, refs_t, refs_c] at h2
      rw [List.mem_singleton.1 h2]
      exact List.mem_cons_of_mem _ (List.mem_singleton.2 rfl)) hi hr
    rcases List.mem_cons.1 h1 with h1 | h1
    · exact .inl h1
    · exact .inr (List.mem_singleton.1 h1)
  have htl : ∀ m ∈ M, tellB (srcF [[2, 0], btC] false) m = true := by
    intro m hm
    unfold tellB
    rcases hin m hm with rfl | rfl
    · rw [src_c, ob_c]
    · rw [src_t, ob_t]
  have h1 : toldL (srcF [[2, 0], btC] false) M = M := List.filter_eq_self.2 htl
  have h2 : lackL (srcF [[2, 0], btC] false) M = [] := List.filter_eq_nil_iff.2 fun m hm => by rw [htl m hm]; simp
  have h3 := nodup_sub hn (K := [idB btC, idB [2, 0]]) fun m hm => by
    rcases hin m hm with rfl | rfl
    · exact List.mem_cons_self ..
    · exact List.mem_cons_of_mem _ (List.mem_singleton.2 rfl)
  have h4 := nodup_sub (M := [idB btC, idB [2, 0]]) (K := M) (List.nodup_cons.2 ⟨fun h => id_ne (List.mem_singleton.1 h), List.nodup_cons.2 ⟨(fun h => by cases h), List.nodup_nil⟩⟩) fun m hm => by
    rcases List.mem_cons.1 hm with rfl | hm
    · exact hc
    · rw [List.mem_singleton.1 hm]; exact ht
  simp only [List.length_cons, List.length_nil] at h3 h4
  exact ⟨by rw [h1]; omega, h2⟩
theorem first_lim {M : List ByteArray} (hn : M.Nodup) (h : ∀ m ∈ M, ∃ i ∈ [idB btC], Rea (nbF (srcF [[2, 0], btC] false)) m i) : ¬ 10 < M.length := by
  have h1 := reach_len hn h
  simp only [List.length_cons, List.length_nil, List.map_cons, List.map_nil, List.sum_cons, List.sum_nil, btC] at h1
  omega
end Go.Mx

namespace Go.Proofs.Ytlfdnlomlbbicaa
open Go.RowKit Go.Mx
theorem clo_first {w : World} {e : Ending} {w' : World} (h : CloPost (srcF [[2, 0], btC] false) [idB btC] 10 w e w') : ∃ v1 v2 M N, e = .returned (.tuple #[v1, v2, .int .i64 0]) ∧ St w w' [⟨v1, 9, 1, 2, ss M⟩, ⟨v2, 9, 1, 0, ss N⟩] [] := by
  rcases h with ⟨v1, v2, M, he, hs, hc, hn, _⟩ | ⟨_, _, M, hn, hr, hl⟩
  · obtain ⟨h1, h2⟩ := first_clo hc hn
    rw [h1, h2] at hs
    exact ⟨v1, v2, _, _, he, hs⟩
  · exact absurd hl (first_lim hn hr)
theorem oz_tc (k : Int) (t : ByteArray) (ht : t.size ≤ 1000) : OZ ⟨k, [], [], t, [], 0, 0, str []⟩ := ⟨by simp only []; omega, by rw [str_size]; simp, by simp, by simp⟩
theorem idB_size (b : List UInt8) : (idB b).size ≤ 1000 := by unfold idB; rw [str_size, hexL_len, sha_len]; simp
theorem ll_two {w0 w : World} {e : TypeId} {va vb v3 : Value} {a b : List UInt8} {R : List Row} {ea eb : TypeId} (h : St w0 w (⟨v3, e, 1, 2, [va, vb]⟩ :: ⟨vb, eb, 1, b.length, bs b⟩ :: ⟨va, ea, 1, a.length, bs a⟩ :: R) []) : LL w v3 [a, b] :=
  ⟨[va, vb], rfl, h.sl0, fun q hq => by
    have hq' : q = ⟨va, 1, a.length, bs a⟩ ∨ q = ⟨vb, 1, b.length, bs b⟩ := by simpa [rds] using hq
    rcases hq' with rfl | rfl
    · exact h.sl2
    · exact h.sl1⟩
set_option maxRecDepth 100000 in
set_option maxHeartbeats 1000000 in
theorem first12_any (w : World) : Calls Try.prog 23 #[] w fun e w' => e = .returned (.bool true) ∧ St w w' [] [] := by
  have HH2 := Mx.hid (fun (wx : World) => encode_any (.slice none 0 0) (.slice none 0 0) (.slice none 0 0) obT wx ⟨Sl.nil _ 1, Sl.nil _ 3, Sl.nil _ 1⟩ (oz_tc _ _ (by rw [str_size]; simp)) |>.mono fun e w' h => (show ∃ v, e = .returned (.tuple #[v, .int .i64 0]) ∧ St wx w' [(⟨v, 5, 1, ([2, 0]).length, bs ([2, 0])⟩ : Row)] [] by unfold EncPost at h; rw [if_pos may_t, enc_t] at h; exact h))
  have HH3 := Mx.hid (fun (wx : World) => encode_any (.slice none 0 0) (.slice none 0 0) (.slice none 0 0) obC wx ⟨Sl.nil _ 1, Sl.nil _ 3, Sl.nil _ 1⟩ (oz_tc _ _ (idB_size _)) |>.mono fun e w' h => (show ∃ v, e = .returned (.tuple #[v, .int .i64 0]) ∧ St wx w' [(⟨v, 5, 1, (btC).length, bs (btC)⟩ : Row)] [] by unfold EncPost at h; rw [if_pos may_c, enc_c] at h; exact h))
  have HI2 := Mx.hid (fun (wx : World) (v : Value) (R : List Row) (h : St w wx ((⟨v, 5, 1, ([2, 0]).length, bs ([2, 0])⟩ : Row) :: R) []) => (rid_any v [2, 0] wx h.sl0 (by simp)))
  have HI3 := Mx.hid (fun (wx : World) (v : Value) (R : List Row) (h : St w wx ((⟨v, 5, 1, (btC).length, bs (btC)⟩ : Row) :: R) []) => (rid_any v btC wx h.sl0 (by simp [btC])))
  have HS := Mx.hid (fun (wx : World) lv (h : LL wx lv [[2, 0], btC]) => source_any lv [[2, 0], btC] false wx h (by simp [btC]) (by simp))
  have HC := Mx.hid (fun (wx : World) g2 g3 g5 v (h : SM wx g2 g3 g5 [[2, 0], btC] false) (hv : Sl wx 1 v 1 (ss [idB btC])) => (closure_any g2 g3 g5 [[2, 0], btC] false v [idB btC] 10 wx h (by simp [btC]) (by simp) hv (by simp) (by omega) (by omega)).mono fun e w' h => clo_first h)
  simp only [show str (hexL (sha [2, 0])) = idB [2, 0] from rfl, show str (hexL (sha btC)) = idB btC from rfl] at HI2 HI3
  simp only [show ((10 : Nat) : Int) = 10 from rfl] at HC
  unfold OV obT at HH2
  unfold OV obC at HH3
  unfold SourcePost at HS
  generalize idB [2, 0] = idt at *
  generalize idB btC = idc at *
  go_enter Try.func23, Try.ntmps23
  go_wp2_with (first | (go_at_call 10; (with_reducible show Calls _ _ #[Value.agg #[Value.int _ 2, _, _, _, _, _, _, _]] _ _); refine (HH2.out _).mono ?_; rintro e w1 ⟨v1, rfl, hs1⟩; obtain ⟨xo, xc, rfl, _⟩ := id hs1.sl0) | (go_at_call 55; refine (HI2.out _ _ _ hs1).mono ?_; rintro e w2 ⟨rfl, hk2⟩; have hs2 := hs1.call0 hk2) | (go_at_call 10; refine (HH3.out _).mono ?_; rintro e w3 ⟨v3, rfl, hk3⟩; obtain ⟨yo, yc, rfl, _⟩ := id hk3.sl0; have hs3 := hs2.call1 hk3) | (go_at_call 26; go_loud (refine (HS.out _ _ (ll_two (hs3.madeAt #[.slice xo 2 xc, .slice yo btC.length yc] 22 1 2 w3.heap.size rfl (by simp [maxLen]) rfl))).mono ?_; rintro e w4 ⟨g2, g3, g5, rfl, hk4, hm4⟩; have hs4 := (hs3.madeAt #[.slice xo 2 xc, .slice yo btC.length yc] 22 1 2 w3.heap.size rfl (by simp [maxLen]) rfl).call0 hk4)) | (go_at_call 55; go_loud (refine (HI3.out _ _ _ (hs4.sub (List.sublist_cons_self ..) (by simp))).mono ?_; rintro e w5 ⟨rfl, hk5⟩; have hs5 := hs4.call0 hk5; have hm5 := hm4.keep hk5)) | (go_at_call 27; go_loud (refine (HC.out _ _ _ _ _ (hm5.keep ((St.refl _).alloc _)) (by exact Sl.one _ _ _)).mono ?_; rintro e w6 ⟨va, vb, M, N, rfl, hk6⟩; obtain ⟨ao, ac, rfl, _⟩ := id hk6.sl0; obtain ⟨bo, bc, rfl, _⟩ := id hk6.sl1; have hs6 := ((hs5.alloc _).call hk6).bare)))
  go_ret
  exact ⟨rfl, hs6⟩


end Go.Proofs.Ytlfdnlomlbbicaa

namespace Go.Proofs.Ytlfdnlomlbbicaa
open Go.RowKit Go.Mx
def CloAns (f : ByteArray → Option (List UInt8)) (ids : List ByteArray) (w : World) (e : Ending) (w' : World) : Prop :=
  ∃ v1 v2 M, e = .returned (.tuple #[v1, v2, .int .i64 0]) ∧ St w w' [⟨v1, 9, 1, (toldL f M).length, ss (sortL (toldL f M))⟩, ⟨v2, 9, 1, (lackL f M).length, ss (sortL (lackL f M))⟩] [] ∧ CloN (nbF f) ids M ∧ M.Nodup ∧ 32 * M.length ≤ 32 * ids.length + 6000
theorem clo2000 (g2 g3 g5 : Nat) (l : List (List UInt8)) (lie : Bool) (v : Value) (ids : List ByteArray) (w : World) (h : SM w g2 g3 g5 l lie) (hz : ∀ x ∈ l, x.length ≤ 1500) (hl : l.length ≤ 40) (hsum : (l.map List.length).sum ≤ 6000) (hv : Sl w 1 v ids.length (ss ids)) (hil : ids.length ≤ 1000) :
    Calls Try.prog 27 #[.func (Fn.func 56) #[] #[.pointer (some ⟨g2, 0, none⟩), .pointer (some ⟨g3, 0, none⟩), .pointer (some ⟨g5, 0, none⟩)], v, .int .i64 2000] w (CloAns (srcF l lie) ids w) := by
  refine (closure_any g2 g3 g5 l lie v ids 2000 w h (fun x hx => by have := hz x hx; omega) (by omega) hv (by omega) (by omega) (by omega)).mono fun e w' he => ?_
  rcases he with ⟨v1, v2, M, he, hs, hc, hn, _⟩ | ⟨_, _, M, hn, hr, hm⟩
  · have h1 := reach_len hn (fun m hm => (hc m).1 hm)
    exact ⟨v1, v2, M, he, hs, hc, hn, by omega⟩
  · have h1 := reach_len hn hr
    omega
set_option maxRecDepth 200000 in
set_option maxHeartbeats 4000000 in
theorem reachJoinsRow (vl : Value) (l : List (List UInt8)) {w : World} (hl : LL w vl l) (hz : ∀ x ∈ l, x.length ≤ reachBytes) (va : Value) (a : List ByteArray) (ha : Sl w 1 va a.length (ss a)) (_ha : ∀ x ∈ a, x.size ≤ maxLen) (vb : Value) (b : List ByteArray) (hb : Sl w 1 vb b.length (ss b)) (_hb : ∀ x ∈ b, x.size ≤ maxLen) (_w : World) :
    Calls Try.prog 4 #[vl, va, vb] w fun e w' => e = .returned (.bool true) ∧ Below w.heap.size w w' := by
  have HL := Mx.hid hl
  have HZ := Mx.hid hz
  have HA := Mx.hid ha
  have HB := Mx.hid hb
  obtain ⟨ao, ac, rfl, _⟩ := ha.form
  obtain ⟨bo, bc, rfl, _⟩ := hb.form
  obtain ⟨vs, hvl, hls, _⟩ := hl
  obtain ⟨lo, lc, rfl, _⟩ := hls.form
  clear hz ha hb hvl hls _ha _hb
  go_enter Try.func4, Try.ntmps4
  go_wp2_with fail
  refine (first12_any _).mono ?_
  rintro e w1 ⟨rfl, hk⟩
  go_wp2_with (first | ((with_reducible show wpList _ _ _ _ _ _); refine wpl_want rfl ?_))
  refine (few10_any _ l _ (LL.old hk HL.out) (fun x hx => by have := HZ.out x hx; unfold reachBytes at this; omega)).mono ?_
  rintro e w2 ⟨b1, rfl, hk2, hb1⟩
  replace hk := hk.call0 hk2
  clear hk2
  cases b1 with
  | false =>
    go_wp2_with (first | ((with_reducible show wpList _ _ _ _ _ _); refine wpl_want rfl ?_) | (go_at_call 23; refine (first12_any _).mono ?_; rintro e wf ⟨rfl, hkf⟩; replace hk := hk.call0 hkf))
    go_ret
    exact ⟨rfl, hk.below⟩
  | true =>
  obtain ⟨hl40, hl15, hl60⟩ := hb1 rfl
  go_wp2_with (first | ((with_reducible show wpList _ _ _ _ _ _); refine wpl_want rfl ?_))
  refine (few12_any _ a _ (hk.old HA.out)).mono ?_
  rintro e w3 ⟨⟨b2, rfl, hb2⟩, rfl⟩
  cases b2 with
  | false =>
    go_wp2_with (first | ((with_reducible show wpList _ _ _ _ _ _); refine wpl_want rfl ?_) | (go_at_call 23; refine (first12_any _).mono ?_; rintro e wf ⟨rfl, hkf⟩; replace hk := hk.call0 hkf))
    go_ret
    exact ⟨rfl, hk.below⟩
  | true =>
  have ha20 := hb2 rfl
  go_wp2_with (first | ((with_reducible show wpList _ _ _ _ _ _); refine wpl_want rfl ?_))
  refine (few12_any _ b _ (hk.old HB.out)).mono ?_
  rintro e w3 ⟨⟨b3, rfl, hb3⟩, rfl⟩
  cases b3 with
  | false =>
    go_wp2_with (first | ((with_reducible show wpList _ _ _ _ _ _); refine wpl_want rfl ?_) | (go_at_call 23; refine (first12_any _).mono ?_; rintro e wf ⟨rfl, hkf⟩; replace hk := hk.call0 hkf))
    go_ret
    exact ⟨rfl, hk.below⟩
  | true =>
  have hb20 := hb3 rfl
  clear hb1 hb2 hb3
  have HCL := Mx.hid (fun wx g2 g3 g5 v ids (h : SM wx g2 g3 g5 l false) (hv : Sl wx 1 v ids.length (ss ids)) (hil : ids.length ≤ 1000) => clo2000 g2 g3 g5 l false v ids wx h hl15 hl40 hl60 hv hil)
  go_wp2_with (first | ((with_reducible show wpList _ _ _ _ _ _); refine wpl_want rfl ?_))
  refine (source_any _ l false _ (LL.old hk HL.out) (fun x hx => by have := hl15 x hx; omega) (by omega)).mono ?_
  rintro e w4 ⟨g2, g3, g5, rfl, hk4, hm4⟩
  replace hk := hk.call0 hk4
  clear hk4 HL HZ hl15 hl40 hl60
  generalize srcF l false = f at *
  go_wp2_with fail
  refine (HCL.out _ _ _ _ _ a hm4 (hk.old HA.out) (by omega)).mono ?_
  rintro e w5 ⟨vx, vp, M, rfl, h5, hcM, hnM, hlM⟩
  obtain ⟨xo, xc, rfl, _⟩ := id h5.sl0
  obtain ⟨po, pc, rfl, _⟩ := id h5.sl1
  have hs5 := hk.call h5
  have hm5 := hm4.keep h5.bare
  go_wp2_with fail
  refine (HCL.out _ _ _ _ _ b hm5 (hs5.old HB.out) (by omega)).mono ?_
  rintro e w6 ⟨vy, vq, N, rfl, h6, hcN, hnN, hlN⟩
  obtain ⟨yo, yc, rfl, _⟩ := id h6.sl0
  obtain ⟨qo, qc, rfl, _⟩ := id h6.sl1
  have hs6 := hs5.call h6
  have hm6 := hm5.keep h6.bare
  go_wp2_with fail
  refine (copyTexts_any _ b _ (hs6.old HB.out) (by omega)).mono ?_
  rintro e w7 ⟨vc, rfl, h7⟩
  go_wp2_with (at_builtin; refine wpl_app rfl _ _ 24 rfl Try.elStr h7 rfl (by exact (hs6.call0 h7.bare).old HA.out) (ss_one _) (by omega) ?_; intro v8 w8 h8 _)
  have hm8 := hm6.keep h8.bare
  refine (HCL.out _ _ _ _ _ (b ++ a) hm8 (h8.cast (show _ = (b ++ a).length by simp) (show _ = ss (b ++ a) by rw [ss_app])).sl0 (by simp; omega)).mono ?_
  rintro e w9 ⟨vz, vr, K, rfl, h9, hcK, hnK, hlK⟩
  obtain ⟨zo, zc, rfl, _⟩ := id h9.sl0
  obtain ⟨ro, rc, rfl, _⟩ := id h9.sl1
  have hs9 := (hs6.call0 h8.bare).call h9
  have hm9 := hm8.keep h9.bare
  have h59 := ((h6.bare.call0 h8.bare).call0 h9.bare)
  have hXL : (sortL (toldL f M)).length ≤ 210 := by rw [sortL_len]; have := told_len f M; omega
  have hx9 : Sl w9 1 (.slice xo (toldL f M).length xc) (sortL (toldL f M)).length (ss (sortL (toldL f M))) := by rw [sortL_len]; exact h59.old h5.sl0
  go_wp2_with fail
  refine (HCL.out _ _ _ _ _ (sortL (toldL f M)) hm9 hx9 (by omega)).mono ?_
  rintro e w10 ⟨vg, vs, K4, rfl, h10, hc4, hn4, hl4⟩
  obtain ⟨go, gc, rfl, _⟩ := id h10.sl0
  obtain ⟨so, sc, rfl, _⟩ := id h10.sl1
  have hs10 := hs9.call h10
  go_wp2_with (first | ((with_reducible show wpList _ _ _ _ _ _); refine wpl_want rfl ?_))
  refine (first12_any _).mono ?_
  rintro e w11 ⟨rfl, h11⟩
  have h9e : St w9 w11 [] [] := h10.bare.call0 h11
  have h6e : St w6 w11 [] [] := (h8.bare.call0 h9.bare).call0 h9e
  have h5e : St w5 w11 [] [] := h6.bare.call0 h6e
  have hwe : St w w11 [] [] := hs10.bare.call0 h11
  have SX := h5e.old h5.sl0
  have SP := h5e.old h5.sl1
  have SY := h6e.old h6.sl0
  have SQ := h6e.old h6.sl1
  have SZ := h9e.old h9.sl0
  have SR := h9e.old h9.sl1
  have SG := h11.old h10.sl0
  have E1 := Mx.hid (told_join hcM hcN hcK hnK)
  have E2 := Mx.hid (lack_join hcM hcN hcK hnK)
  have E3 := Mx.hid (again_told hcM hnM hc4 hn4)
  have E4 := again_lack hcM hc4 hn4
  have L1 := told_len f M
  have L2 := lack_len f M
  have L3 := told_len f N
  have L4 := lack_len f N
  have LK := told_len f K
  have LR := lack_len f K
  have LG := told_len f K4
  have LS := lack_len f K4
  simp only [← sortL_len (toldL f M), ← sortL_len (toldL f N), ← sortL_len (toldL f K), ← sortL_len (toldL f K4), ← sortL_len (lackL f M), ← sortL_len (lackL f N), ← sortL_len (lackL f K), ← sortL_len (lackL f K4)] at *
  clear hcM hcN hcK hc4 hnM hnN hnK hn4 HCL hm4 hm5 hm6 hm8 hm9 hs5 hs6 hs9 hs10 h5 h6 h7 h8 h9 h10 h59 hx9
  generalize sortL (toldL f M) = X at *
  generalize sortL (lackL f M) = P at *
  generalize sortL (toldL f N) = Y at *
  generalize sortL (lackL f N) = Q at *
  generalize sortL (toldL f K) = Z at *
  generalize sortL (lackL f K) = R at *
  generalize sortL (toldL f K4) = G at *
  generalize sortL (lackL f K4) = S at *
  go_wp2_with (first | ((with_reducible show wpList _ _ _ _ _ _); refine wpl_want rfl ?_))
  have k11 : St w11 w11 [] [] := St.refl w11
  refine (copyTexts_any _ X _ (k11.old SX) (by omega)).mono ?_
  rintro e w12 ⟨v12, rfl, h12⟩
  go_wp2_with (first | ((with_reducible show wpList _ _ _ _ _ _); refine wpl_want rfl ?_) | (at_builtin; refine wpl_app rfl _ _ 24 rfl Try.elStr h12 rfl (by exact (k11.call0 h12.bare).old SY) (ss_one _) (by omega) ?_; intro v13 w13 h13 _))
  refine (refUnique_any _ (X ++ Y) _ (h13.cast (show _ = (X ++ Y).length by simp) (show _ = ss (X ++ Y) by rw [ss_app])).sl0 (by simp; omega)).mono ?_
  rintro e w14 ⟨v14, rfl, h14⟩
  have k14 : St w11 w14 [] [] := (k11.call0 h13.bare).call0 h14.bare
  go_wp2_with (first | ((with_reducible show wpList _ _ _ _ _ _); refine wpl_want rfl ?_))
  refine (texts_same _ _ Z (uniqL (X ++ Y)) _ (k14.old SZ) h14.sl0 E1).mono ?_
  rintro e w15 ⟨rfl, h15⟩
  have k15 := k14.call0 h15
  go_wp2_with (first | ((with_reducible show wpList _ _ _ _ _ _); refine wpl_want rfl ?_))
  refine (copyTexts_any _ P _ (k15.old SP) (by omega)).mono ?_
  rintro e w16 ⟨v16, rfl, h16⟩
  go_wp2_with (first | ((with_reducible show wpList _ _ _ _ _ _); refine wpl_want rfl ?_) | (at_builtin; refine wpl_app rfl _ _ 24 rfl Try.elStr h16 rfl (by exact (k15.call0 h16.bare).old SQ) (ss_one _) (by omega) ?_; intro v17 w17 h17 _))
  refine (refUnique_any _ (P ++ Q) _ (h17.cast (show _ = (P ++ Q).length by simp) (show _ = ss (P ++ Q) by rw [ss_app])).sl0 (by simp; omega)).mono ?_
  rintro e w18 ⟨v18, rfl, h18⟩
  have k18 : St w11 w18 [] [] := (k15.call0 h17.bare).call0 h18.bare
  go_wp2_with (first | ((with_reducible show wpList _ _ _ _ _ _); refine wpl_want rfl ?_))
  refine (texts_same _ _ R (uniqL (P ++ Q)) _ (k18.old SR) h18.sl0 E2).mono ?_
  rintro e w19 ⟨rfl, h19⟩
  have k19 := k18.call0 h19
  go_wp2_with (first | ((with_reducible show wpList _ _ _ _ _ _); refine wpl_want rfl ?_))
  refine (texts_same _ _ G X _ (k19.old SG) (k19.old SX) E3).mono ?_
  rintro e w20 ⟨rfl, h20⟩
  have k20 := hwe.call0 (k19.call0 h20)
  go_wp2_with (first | ((with_reducible show wpList _ _ _ _ _ _); refine wpl_want rfl ?_))
  go_ret
  exact ⟨rfl, k20.below⟩
end Go.Proofs.Ytlfdnlomlbbicaa
