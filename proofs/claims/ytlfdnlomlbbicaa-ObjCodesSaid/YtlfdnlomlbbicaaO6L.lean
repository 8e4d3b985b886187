/- marlaw6.ObjCodes. -/
import Derived.Test.YtlfdnlomlbbicaaO6U
import Derived.Test.YtlfdnlomlbbicaaJ2R6F
import Derived.Test.YtlfdnlomlbbicaaR6S
namespace Go.Mx
open Go Go.RowKit
/-- What Encode tells. -/
def eB (o : Ob) : List UInt8 := if mayB o = true then encL o else []
def eE (o : Ob) : Int := if mayB o = true then 0 else 1
/-- A variable's cells. -/
def VC (g : Nat) (cs : List Value) (w : World) : Prop := ∀ i u, cs[i]? = some u → w.cell? ⟨g, 0 + i, none⟩ = some u
theorem VC.of {w0 w : World} {R : List Row} {Q : List Rd} {g : Nat} {n cap : Nat} {e : TypeId} {cs : List Value} {size : Nat} (h : St w0 w R Q) (hr : (⟨.slice (some ⟨g, 0, none⟩) n cap, e, size, n, cs⟩ : Row) ∈ R) : VC g cs w := fun i u hu => by rw [Nat.zero_add]; exact h.rcell hr hu
theorem VC.keep {w0 w : World} {R : List Row} {Q : List Rd} {g : Nat} {cs : List Value} (h : VC g cs w0) (hs : St w0 w R Q) : VC g cs w := fun i u hu => hs.keep (h i u hu)
theorem decO_len (b : List UInt8) (hb : b.length ≤ 1000000000) : (decO b).1.items.length ≤ 1000000000000 := by
  rw [← decR_eq]
  unfold decR
  match b, hb with
  | [], _ => simp [noOb]
  | k :: r, hb =>
    simp only []
    split
    · exact (readR_ok _ r (by simp at hb; omega)).2.2
    · simp [noOb]
end Go.Mx
namespace Go.Proofs.Ytlfdnlomlbbicaa
open Go.RowKit Go.Mx

theorem enc_u {dv iv pv : Value} {o : Ob} {w : World} (h : OB w dv iv pv o) (hz : OZ o) : Calls Try.prog 10 #[OV dv iv pv o] w fun e w' => ∃ v, e = .returned (.tuple #[v, .int .i64 (eE o)]) ∧ St w w' [(⟨v, 5, 1, (eB o).length, bs (eB o)⟩ : Row)] [] :=
  (encode_any dv iv pv o w h hz).mono fun e w' he => by
    unfold EncPost at he
    unfold eE eB
    cases hm : mayB o with
    | true => rw [hm] at he; exact he
    | false => rw [hm] at he; obtain ⟨h1, h2⟩ := he; exact ⟨_, h1, h2.addNil _ _⟩
theorem renc_u {dv iv pv : Value} {o : Ob} {w : World} (h : OB w dv iv pv o) (hz : OZ o) (hdl : o.data.length ≤ 1000000000000) (hil : o.items.length ≤ 1000000000000) : Calls Try.prog 12 #[OV dv iv pv o] w fun e w' => ∃ v, e = .returned (.tuple #[v, .int .i64 (eE o)]) ∧ St w w' [(⟨v, 5, 1, (eB o).length, bs (eB o)⟩ : Row)] [] :=
  (rencode_any dv iv pv o w h hz hdl hil).mono fun e w' he => by
    unfold EncPost at he
    unfold eE eB
    cases hm : mayB o with
    | true => rw [hm] at he; exact he
    | false => rw [hm] at he; obtain ⟨h1, h2⟩ := he; exact ⟨_, h1, h2.addNil _ _⟩

theorem bytes_self (v v' : Value) (l l' : List UInt8) (w : World) (h : l = l') (hv : Sl w 1 v l.length (bs l)) (hv' : Sl w 1 v' l'.length (bs l')) :
    Calls Try.prog 15 #[v, v'] w fun e w' => e = .returned (.bool true) ∧ w = w' :=
  (bytes_any v v' l l' w hv hv').mono fun e w' he => by rw [decide_eq_true h] at he; exact he
theorem rsame_self (dv iv pv dv' iv' pv' : Value) (o : Ob) (w : World) (h : OB w dv iv pv o) (h' : OB w dv' iv' pv' o) :
    Calls Try.prog 18 #[OV dv iv pv o, OV dv' iv' pv' o] w fun e w' => e = .returned (.bool true) ∧ St w w' [] [] :=
  (rsame_any dv iv pv dv' iv' pv' o o w h h').mono fun e w' he => by rw [(sameB_iff o o).2 rfl] at he; exact he
set_option maxRecDepth 200000 in
set_option maxHeartbeats 20000000 in
theorem objCodesRow (dv iv pv : Value) (o : Ob) {w : World} (h : OB w dv iv pv o) (_hi : OI o) (hz : OZ o ∧ o.data.length ≤ reachBytes) (dv' iv' pv' : Value) (o' : Ob) (h' : OB w dv' iv' pv' o') (_hi' : OI o') (hz' : OZ o' ∧ o'.data.length ≤ reachBytes) (vb : Value) (b : List UInt8) (hb : Sl w 1 vb b.length (bs b)) (_w : World) :
    Calls Try.prog 3 #[OV dv iv pv o, OV dv' iv' pv' o', vb] w fun e w' => e = .returned (.bool true) ∧ Below w.heap.size w w' := by
  have HFa := Mx.hid (fun wx (hs : St w wx [] []) => few_any dv iv pv o wx (OB.old hs h) hz.1)
  have HFb := Mx.hid (fun wx (hs : St w wx [] []) => few_any dv' iv' pv' o' wx (OB.old hs h') hz'.1)
  have HA := Mx.hid h
  have HB := Mx.hid h'
  have HZ := Mx.hid hz.1
  have HBV := Mx.hid hb
  obtain ⟨ba, bc, rfl, hbc, hbm, _⟩ := id hb
  unfold maxLen at hbm
  obtain ⟨d1, d2, rfl, g1, g2, _⟩ := h.d
  obtain ⟨i1, i2, rfl, g3, g4, _⟩ := h.i
  obtain ⟨p1, p2, rfl, g5, g6, _⟩ := h.p
  obtain ⟨e1, e2, rfl, g1', g2', _⟩ := h'.d
  obtain ⟨j1, j2, rfl, g3', g4', _⟩ := h'.i
  obtain ⟨q1, q2, rfl, g5', g6', _⟩ := h'.p
  clear h h' hz hz' hb
  obtain ⟨ka, da, ia, ta, pa, sa, aa, ma⟩ := o
  obtain ⟨kb, db, ib, tb, pb, sb, ab, mb⟩ := o'
  simp only [OV] at *
  go_enter Try.func3, Try.ntmps3
  go_wp2_with (first | ((with_reducible show wpList _ _ _ _ _ _); refine wpl_box rfl 26 _ rfl hsx ([.int .i64 kb, .slice e1 db.length e2, .slice j1 ib.length j2, .string tb, .slice q1 pb.length q2, .int .i64 sb, .int .i64 ab, .string mb]) (by rfl) ?_; intro gy wy hsy) | ((with_reducible show wpList _ _ _ _ _ _); refine wpl_box rfl 26 _ rfl (St.refl w) ([.int .i64 ka, .slice d1 da.length d2, .slice i1 ia.length i2, .string ta, .slice p1 pa.length p2, .int .i64 sa, .int .i64 aa, .string ma]) (by rfl) ?_; intro gx wx hsx) | (go_at_call 7; refine (first_any _).mono ?_; rintro e w9 ⟨rfl, hk9⟩; replace hsy := hsy.call0 hk9) | ((with_reducible show wpList _ _ _ _ _ _); refine wpl_loadA rfl 26 _ rfl Try.aObj (gx) (0) rfl ([.int .i64 ka, .slice d1 da.length d2, .slice i1 ia.length i2, .string ta, .slice p1 pa.length p2, .int .i64 sa, .int .i64 aa, .string ma]) rfl (fun i u h => by rw [Nat.zero_add]; exact hsy.rcell (List.mem_cons_of_mem _ (List.mem_cons_self ..)) h) ?_) | ((with_reducible show wpList _ _ _ _ _ _); refine wpl_loadA rfl 26 _ rfl Try.aObj (gy) (0) rfl ([.int .i64 kb, .slice e1 db.length e2, .slice j1 ib.length j2, .string tb, .slice q1 pb.length q2, .int .i64 sb, .int .i64 ab, .string mb]) rfl (fun i u h => by rw [Nat.zero_add]; exact hsy.rcell (List.mem_cons_self ..) h) ?_))
  refine (HFa.out _ hsy.bare).mono ?_
  rintro e w3 ⟨fa, rfl, hk, hfa⟩
  replace hsy := hsy.call0 hk
  cases fa with
  | false =>
    go_wp2_with (first | ((with_reducible show wpList _ _ _ _ _ _); refine wpl_want rfl ?_) | (go_at_call 7; refine (first_any _).mono ?_; rintro e w9 ⟨rfl, hk9⟩; replace hsy := hsy.call0 hk9))
    go_ret
    exact ⟨rfl, hsy.below⟩
  | true =>
  go_wp2_with (first | ((with_reducible show wpList _ _ _ _ _ _); refine wpl_want rfl ?_) | ((with_reducible show wpList _ _ _ _ _ _); refine wpl_loadA rfl 26 _ rfl Try.aObj (gx) (0) rfl ([.int .i64 ka, .slice d1 da.length d2, .slice i1 ia.length i2, .string ta, .slice p1 pa.length p2, .int .i64 sa, .int .i64 aa, .string ma]) rfl (fun i u h => by rw [Nat.zero_add]; exact hsy.rcell (List.mem_cons_of_mem _ (List.mem_cons_self ..)) h) ?_) | ((with_reducible show wpList _ _ _ _ _ _); refine wpl_loadA rfl 26 _ rfl Try.aObj (gy) (0) rfl ([.int .i64 kb, .slice e1 db.length e2, .slice j1 ib.length j2, .string tb, .slice q1 pb.length q2, .int .i64 sb, .int .i64 ab, .string mb]) rfl (fun i u h => by rw [Nat.zero_add]; exact hsy.rcell (List.mem_cons_self ..) h) ?_))
  refine (HFb.out _ hsy.bare).mono ?_
  rintro e w4 ⟨fb, rfl, hk, hfb⟩
  replace hsy := hsy.call0 hk
  cases fb with
  | false =>
    go_wp2_with (first | ((with_reducible show wpList _ _ _ _ _ _); refine wpl_want rfl ?_) | (go_at_call 7; refine (first_any _).mono ?_; rintro e w9 ⟨rfl, hk9⟩; replace hsy := hsy.call0 hk9))
    go_ret
    exact ⟨rfl, hsy.below⟩
  | true =>
  by_cases hbl : 30000 < b.length
  · have q3 : decide ((30000 : Int) < (b.length : Int)) = true := decide_eq_true (by omega)
    have q4 : decide (30000 < b.length) = true := decide_eq_true (by omega)
    go_wp2_with (first | ((with_reducible show wpList _ _ _ _ _ _); refine wpl_want rfl ?_) | (go_at_call 7; refine (first_any _).mono ?_; rintro e w9 ⟨rfl, hk9⟩; replace hsy := hsy.call0 hk9))
    go_ret
    exact ⟨rfl, hsy.below⟩
  have q3 : decide ((30000 : Int) < (b.length : Int)) = false := decide_eq_false (by omega)
  have q4 : decide (30000 < b.length) = false := decide_eq_false (by omega)
  obtain ⟨l1, l2, l3, _, _⟩ := hfa trivial
  obtain ⟨m1, m2, m3, _, _⟩ := hfb rfl
  simp only [] at l1 l2 l3 m1 m2 m3
  have HLA := Mx.hid (show ia.length ≤ 400 ∧ pa.length ≤ 400 ∧ da.length ≤ 30000 ∧ ib.length ≤ 400 ∧ pb.length ≤ 400 ∧ db.length ≤ 30000 ∧ b.length ≤ 30000 from ⟨l1, l2, l3, m1, m2, m3, by omega⟩)
  clear hfa hfb hbl l1 l2 l3 m1 m2 m3 HFa HFb hsx
  have hsy : St w w4 [⟨.slice (some ⟨gy, 0, none⟩) 1 1, 26, 8, 1, [.int .i64 kb, .slice e1 db.length e2, .slice j1 ib.length j2, .string tb, .slice q1 pb.length q2, .int .i64 sb, .int .i64 ab, .string mb]⟩, ⟨.slice (some ⟨gx, 0, none⟩) 1 1, 26, 8, 1, [.int .i64 ka, .slice d1 da.length d2, .slice i1 ia.length i2, .string ta, .slice p1 pa.length p2, .int .i64 sa, .int .i64 aa, .string ma]⟩] [] := hsy
  go_wp2_with (first | ((with_reducible show wpList _ _ _ _ _ _); refine wpl_want rfl ?_) | (go_at_call 9; refine (copyBytes_any _ b _ (hsy.old HBV.out) (by have := HLA.out; omega)).mono ?_; rintro e w5 ⟨vn, rfl, hk⟩; obtain ⟨na, nc, rfl, _⟩ := id hk.sl0; have hs1 := (hsy.call1 hk).freeze; simp only [] at hs1; clear hk hsy) | ((with_reducible show wpList _ _ _ _ _ _); refine wpl_loadA rfl 26 _ rfl Try.aObj (gx) (0) rfl ([.int .i64 ka, .slice d1 da.length d2, .slice i1 ia.length i2, .string ta, .slice p1 pa.length p2, .int .i64 sa, .int .i64 aa, .string ma]) rfl (VC.of hs1 (List.mem_cons_of_mem _ (List.mem_cons_self ..))) ?_))
  refine (enc_u (OB.old hs1 HA.out) HZ.out).mono ?_
  rintro e w6 ⟨vx, rfl, hk⟩
  obtain ⟨xa, xc, rfl, _⟩ := id hk.sl0
  have hs2 := (hs1.call1 hk).freeze
  simp only [] at hs2
  clear hk hs1
  go_wp2_with (first | ((with_reducible show wpList _ _ _ _ _ _); refine wpl_want rfl ?_) | ((with_reducible show wpList _ _ _ _ _ _); refine wpl_loadA rfl 26 _ rfl Try.aObj (gx) (0) rfl ([.int .i64 ka, .slice d1 da.length d2, .slice i1 ia.length i2, .string ta, .slice p1 pa.length p2, .int .i64 sa, .int .i64 aa, .string ma]) rfl (VC.of hs2 (List.mem_cons_of_mem _ (List.mem_cons_self ..))) ?_))
  refine (plain_any _ _ _ ⟨ka, da, ia, ta, pa, sa, aa, ma⟩ _ (OB.old hs2 HA.out) (by have := HLA.out; show ia.length ≤ _; omega)).mono ?_
  rintro e w7 ⟨i6, rfl, hk⟩
  have hs3 := hs2.call1 hk
  have hOB := OB.old (hs2.call0 hk.bare) HA.out
  obtain ⟨ia6, ic6, rfl, _⟩ := id hk.sl0
  have HEN := Mx.hid (renc_u (o := ⟨ka, da, ia, ta, pa, sa, aa, ma⟩) ⟨hOB.d, hk.sl0, hOB.p⟩ HZ.out (by have := HLA.out; show da.length ≤ _; omega) (by have := HLA.out; show ia.length ≤ _; omega))
  clear hk hs2 hOB
  simp only [OV] at *
  go_wp2_with fail
  refine HEN.out.mono ?_
  rintro e w8 ⟨vy, rfl, hk⟩
  obtain ⟨ya, yc, rfl, _⟩ := id hk.sl0
  have hs4 := (hs3.call1 hk).freeze.tail
  simp only [] at hs4
  clear hk hs3 HEN
  generalize eB ⟨ka, da, ia, ta, pa, sa, aa, ma⟩ = EB at *
  generalize eE ⟨ka, da, ia, ta, pa, sa, aa, ma⟩ = EE at *
  have HQLEN := Mx.hid (decO_len b (by have := HLA.out; omega))
  obtain ⟨q, er, hD⟩ : ∃ q er, decO b = (q, er) := ⟨_, _, rfl⟩
  rw [hD] at HQLEN
  go_wp2_with fail
  refine (decode_any _ b _ hs4.q2 (by have := HLA.out; omega)).mono ?_
  intro e w9 he
  unfold DecPost at he
  rw [hD] at he
  obtain ⟨vd, vi, vp, rfl, hk⟩ := he
  have hs5 := hs4.call hk
  obtain ⟨kq, dq, iq, tq, pq, sq, aq, mq⟩ := q
  have hkD : Sl w9 1 vd dq.length (bs dq) := hk.sl0
  have hkI : Sl w9 3 vi iq.length (itms iq) := hk.sl1
  have hkP : Sl w9 1 vp pq.length (ss pq) := hk.sl2
  obtain ⟨qd1, qd2, rfl, _⟩ := id hkD
  obtain ⟨qi1, qi2, rfl, _⟩ := id hkI
  obtain ⟨qp1, qp2, rfl, _⟩ := id hkP
  simp only [OV] at *
  clear hk hs4 hkD hkI hkP
  go_wp2_with (((with_reducible show wpList _ _ _ _ _ _); refine wpl_storeA rfl 26 _ _ rfl Try.aObj (hs5.madeAt ([.int .i64 (0), .slice none 0 0, .slice none 0 0, .string (str []), .slice none 0 0, .int .i64 (0), .int .i64 (0), .string (str [])]).toArray 26 8 1 _ rfl (by simp [maxLen]) rfl) (0) rfl ([.int .i64 kq, .slice qd1 dq.length qd2, .slice qi1 iq.length qi2, .string tq, .slice qp1 pq.length qp2, .int .i64 sq, .int .i64 aq, .string mq]) rfl (by rfl) (by simp) (by intro u hu; simp at hu; rcases hu with rfl | rfl | rfl | rfl | rfl | rfl | rfl | rfl <;> rfl) ?_; intro w10 hs6))
  replace hs6 := hs6.cast rfl (show _ = [.int .i64 kq, .slice qd1 dq.length qd2, .slice qi1 iq.length qi2, .string tq, .slice qp1 pq.length qp2, .int .i64 sq, .int .i64 aq, .string mq] by simp)
  generalize w9.heap.size = gq at *
  refine (rdecode_any _ b _ (hs6.old HBV.out) (by have := HLA.out; omega)).mono ?_
  intro e w11 he
  unfold RDecPost at he
  rw [hD] at he
  obtain ⟨vd6, vi6, vp6, rfl, hk⟩ := he
  have hs7 := hs6.call hk
  have hkD : Sl w11 1 vd6 dq.length (bs dq) := hk.sl0
  have hkI : Sl w11 3 vi6 iq.length (itms iq) := hk.sl1
  have hkP : Sl w11 1 vp6 pq.length (ss pq) := hk.sl2
  obtain ⟨rd1, rd2, rfl, _⟩ := id hkD
  obtain ⟨ri1, ri2, rfl, _⟩ := id hkI
  obtain ⟨rp1, rp2, rfl, _⟩ := id hkP
  simp only [OV] at *
  clear hk hs5 hs6 hkD hkI hkP
  go_wp2_with (((with_reducible show wpList _ _ _ _ _ _); refine wpl_storeA rfl 35 _ _ rfl Try.aObj6 (hs7.madeAt ([.int .i64 (0), .slice none 0 0, .slice none 0 0, .string (str []), .slice none 0 0, .int .i64 (0), .int .i64 (0), .string (str [])]).toArray 35 8 1 _ rfl (by simp [maxLen]) rfl) (0) rfl ([.int .i64 kq, .slice rd1 dq.length rd2, .slice ri1 iq.length ri2, .string tq, .slice rp1 pq.length rp2, .int .i64 sq, .int .i64 aq, .string mq]) rfl (by rfl) (by simp) (by intro u hu; simp at hu; rcases hu with rfl | rfl | rfl | rfl | rfl | rfl | rfl | rfl <;> rfl) ?_; intro w12 hs8))
  replace hs8 := hs8.cast rfl (show _ = [.int .i64 kq, .slice rd1 dq.length rd2, .slice ri1 iq.length ri2, .string tq, .slice rp1 pq.length rp2, .int .i64 sq, .int .i64 aq, .string mq] by simp)
  generalize w11.heap.size = gr at *
  clear hs7 hD
  simp only [obR, obR6, List.cons_append, List.nil_append] at hs8
  have HS := Mx.hid (fun (wx : World) (R : List Row) (Q : List Rd) (h : St w12 wx R Q) => (show VC gx [.int .i64 ka, .slice d1 da.length d2, .slice i1 ia.length i2, .string ta, .slice p1 pa.length p2, .int .i64 sa, .int .i64 aa, .string ma] wx ∧ VC gy [.int .i64 kb, .slice e1 db.length e2, .slice j1 ib.length j2, .string tb, .slice q1 pb.length q2, .int .i64 sb, .int .i64 ab, .string mb] wx ∧ VC gq [.int .i64 kq, .slice qd1 dq.length qd2, .slice qi1 iq.length qi2, .string tq, .slice qp1 pq.length qp2, .int .i64 sq, .int .i64 aq, .string mq] wx ∧ VC gr [.int .i64 kq, .slice rd1 dq.length rd2, .slice ri1 iq.length ri2, .string tq, .slice rp1 pq.length rp2, .int .i64 sq, .int .i64 aq, .string mq] wx from
    ⟨VC.keep (VC.of (g := gx) (cs := [.int .i64 ka, .slice d1 da.length d2, .slice i1 ia.length i2, .string ta, .slice p1 pa.length p2, .int .i64 sa, .int .i64 aa, .string ma]) hs8 (by repeat (first | exact List.mem_cons_self .. | apply List.mem_cons_of_mem))) h, VC.keep (VC.of (g := gy) (cs := [.int .i64 kb, .slice e1 db.length e2, .slice j1 ib.length j2, .string tb, .slice q1 pb.length q2, .int .i64 sb, .int .i64 ab, .string mb]) hs8 (by repeat (first | exact List.mem_cons_self .. | apply List.mem_cons_of_mem))) h, VC.keep (VC.of (g := gq) (cs := [.int .i64 kq, .slice qd1 dq.length qd2, .slice qi1 iq.length qi2, .string tq, .slice qp1 pq.length qp2, .int .i64 sq, .int .i64 aq, .string mq]) hs8 (by repeat (first | exact List.mem_cons_self .. | apply List.mem_cons_of_mem))) h, VC.keep (VC.of (g := gr) (cs := [.int .i64 kq, .slice rd1 dq.length rd2, .slice ri1 iq.length ri2, .string tq, .slice rp1 pq.length rp2, .int .i64 sq, .int .i64 aq, .string mq]) hs8 (by repeat (first | exact List.mem_cons_self .. | apply List.mem_cons_of_mem))) h⟩))
  have HA2 := Mx.hid (OB.old hs8 HA.out)
  have HB2 := Mx.hid (OB.old hs8 HB.out)
  have HQ2 : Hid (OB w12 (.slice qd1 dq.length qd2) (.slice qi1 iq.length qi2) (.slice qp1 pq.length qp2) ⟨kq, dq, iq, tq, pq, sq, aq, mq⟩) := Mx.hid ⟨hs8.sl (r := (⟨.slice qd1 dq.length qd2, 5, 1, (dq).length, bs (dq)⟩ : Row)) (by repeat (first | exact List.mem_cons_self .. | apply List.mem_cons_of_mem)), hs8.sl (r := ⟨.slice qi1 iq.length qi2, 65, 3, iq.length, itms iq⟩) (by repeat (first | exact List.mem_cons_self .. | apply List.mem_cons_of_mem)), hs8.sl (r := ⟨.slice qp1 pq.length qp2, 9, 1, pq.length, ss pq⟩) (by repeat (first | exact List.mem_cons_self .. | apply List.mem_cons_of_mem))⟩
  have HR2 : Hid (OB w12 (.slice rd1 dq.length rd2) (.slice ri1 iq.length ri2) (.slice rp1 pq.length rp2) ⟨kq, dq, iq, tq, pq, sq, aq, mq⟩) := Mx.hid ⟨hs8.sl (r := (⟨.slice rd1 dq.length rd2, 5, 1, (dq).length, bs (dq)⟩ : Row)) (by repeat (first | exact List.mem_cons_self .. | apply List.mem_cons_of_mem)), hs8.sl (r := ⟨.slice ri1 iq.length ri2, 68, 3, iq.length, itms iq⟩) (by repeat (first | exact List.mem_cons_self .. | apply List.mem_cons_of_mem)), hs8.sl (r := ⟨.slice rp1 pq.length rp2, 9, 1, pq.length, ss pq⟩) (by repeat (first | exact List.mem_cons_self .. | apply List.mem_cons_of_mem))⟩
  have HX2 := Mx.hid (And.intro hs8.q1 (And.intro hs8.q0 (And.intro hs8.q2 (hs8.old HBV.out))))
  have HK := Mx.hid hs8.bare
  have HQL := Mx.hid (show iq.length ≤ 1000000000000 from HQLEN.out)
  have HZZ := Mx.hid HZ.out
  have ha := HLA.out
  have HLI := Mx.hid (show ia.length ≤ 1000000000000 ∧ ib.length ≤ 1000000000000 ∧ da.length ≤ 1000000000000 ∧ ia.length ≤ 4294967296 ∧ pa.length ≤ 4294967296 by omega)
  clear hs8 HA HB HBV HLA ha
  have h0 := (St.refl w12).drew
  (refine wp_region_S (54) (fun W' => VC gx [.int .i64 ka, .slice d1 da.length d2, .slice i1 ia.length i2, .string ta, .slice p1 pa.length p2, .int .i64 sa, .int .i64 aa, .string ma] W' ∧ VC gy [.int .i64 kb, .slice e1 db.length e2, .slice j1 ib.length j2, .string tb, .slice q1 pb.length q2, .int .i64 sb, .int .i64 ab, .string mb] W' ∧ VC gq [.int .i64 kq, .slice qd1 dq.length qd2, .slice qi1 iq.length qi2, .string tq, .slice qp1 pq.length qp2, .int .i64 sq, .int .i64 aq, .string mq] W' ∧ VC gr [.int .i64 kq, .slice rd1 dq.length rd2, .slice ri1 iq.length ri2, .string tq, .slice rp1 pq.length rp2, .int .i64 sq, .int .i64 aq, .string mq] W') (by kernel_rfl) ?_ (fun hHeld => ?_); (focus ((try dsimp only); exact HS.out _ _ _ h0)))
  (refine wpAnyS_ready (rs := [0]) (by kernel_rfl) (by simp) ?_; refine AllS.consL rfl (fun K hK => ?_) AllS.nil)
  (go_simp; go_at_call 7; refine (first_any _).mono ?_; rintro e w' ⟨rfl, hk1⟩; go_wp2_with fail)
  have h1 := h0.call0 hk1
  (refine hK.out _ _ ?_ (fun hHeld => ?_); (focus ((try dsimp only); exact HS.out _ _ _ h1)); clear hK K; (try simp only [Act.put, List.setIfInBounds_toArray, List.set_cons_zero, List.set_cons_succ]))
  (refine wpAnyS_takeL (i := 1) (v := ?_) rfl (by kernel_rfl) (by kernel_rfl) (by kernel_rfl) (by kernel_rfl) (by kernel_rfl) (by kernel_rfl) (fun _ _ _ h => h) (Or.inl ⟨by rfl, ?_⟩) hHeld ?_; rotate_left 1; (focus (intro w' hSw; (try dsimp only at hSw); go_simp; (try with_reducible rfl))); (try simp only [Act.put, List.setIfInBounds_toArray, List.set_cons_zero, List.set_cons_succ]))
  (refine wpAnyS_takeL (i := 2) (v := ?_) rfl (by kernel_rfl) (by kernel_rfl) (by kernel_rfl) (by kernel_rfl) (by kernel_rfl) (by kernel_rfl) (fun _ _ _ h => h) (Or.inl ⟨by rfl, ?_⟩) hHeld ?_; rotate_left 1; (focus (intro w' hSw; (try dsimp only at hSw); go_simp; (try with_reducible rfl))); (try simp only [Act.put, List.setIfInBounds_toArray, List.set_cons_zero, List.set_cons_succ]))
  (refine wpAnyS_takeL (i := 3) (v := ?_) rfl (by kernel_rfl) (by kernel_rfl) (by kernel_rfl) (by kernel_rfl) (by kernel_rfl) (by kernel_rfl) (fun _ _ _ h => h) (Or.inl ⟨by rfl, ?_⟩) hHeld ?_; rotate_left 1; (focus (intro w' hSw; (try dsimp only at hSw); go_simp; (try with_reducible rfl))); (try simp only [Act.put, List.setIfInBounds_toArray, List.set_cons_zero, List.set_cons_succ]))
  (refine wpAnyS_ready (rs := [4]) (by kernel_rfl) (by simp) ?_; refine AllS.consL rfl (fun K hK => ?_) AllS.nil)
  (go_simp; go_at_call 15; refine (bytes_self _ _ EB EB _ rfl (h1.old HX2.out.1) (h1.old HX2.out.2.1)).mono ?_; rintro e w' ⟨rfl, rfl⟩; go_wp2_with fail)
  (refine hK.out _ _ ?_ (fun hHeld => ?_); (focus ((try dsimp only); exact HS.out _ _ _ h1)); clear hK K; (try simp only [Act.put, List.setIfInBounds_toArray, List.set_cons_zero, List.set_cons_succ]))
  (refine wpAnyS_takeL (i := 5) (v := ?_) rfl (by kernel_rfl) (by kernel_rfl) (by kernel_rfl) (by kernel_rfl) (by kernel_rfl) (by kernel_rfl) (fun _ _ _ h => h) (Or.inl ⟨by rfl, ?_⟩) hHeld ?_; rotate_left 1; (focus (intro w' hSw; (try dsimp only at hSw); go_simp; (try with_reducible rfl))); (try simp only [Act.put, List.setIfInBounds_toArray, List.set_cons_zero, List.set_cons_succ]))
  (refine wpAnyS_takeL (i := 6) (v := ?_) rfl (by kernel_rfl) (by kernel_rfl) (by kernel_rfl) (by kernel_rfl) (by kernel_rfl) (by kernel_rfl) (fun _ _ _ h => h) (Or.inl ⟨by rfl, ?_⟩) hHeld ?_; rotate_left 1; (focus (intro w' hSw; (try dsimp only at hSw); go_simp; (try with_reducible rfl))); (try simp only [Act.put, List.setIfInBounds_toArray, List.set_cons_zero, List.set_cons_succ]))
  (refine wpAnyS_takeL (i := 7) (v := ?_) rfl (by kernel_rfl) (by kernel_rfl) (by kernel_rfl) (by kernel_rfl) (by kernel_rfl) (by kernel_rfl) (fun _ _ _ h => h) (Or.inl ⟨by rfl, ?_⟩) hHeld ?_; rotate_left 1; (focus (intro w' hSw; (try dsimp only at hSw); go_simp; (try with_reducible rfl))); (try simp only [Act.put, List.setIfInBounds_toArray, List.set_cons_zero, List.set_cons_succ]))
  (refine wpAnyS_takeL (i := 8) (v := ?_) rfl (by kernel_rfl) (by kernel_rfl) (by kernel_rfl) (by kernel_rfl) (by kernel_rfl) (by kernel_rfl) (fun _ _ _ h => h) (Or.inl ⟨by rfl, ?_⟩) hHeld ?_; rotate_left 1; (focus (intro w' hSw; (try dsimp only at hSw); go_simp; (try with_reducible rfl))); (try simp only [Act.put, List.setIfInBounds_toArray, List.set_cons_zero, List.set_cons_succ]))
  (refine wpAnyS_takeL (i := 9) (v := ?_) rfl (by kernel_rfl) (by kernel_rfl) (by kernel_rfl) (by kernel_rfl) (by kernel_rfl) (by kernel_rfl) (fun _ _ _ h => h) (Or.inl ⟨by rfl, ?_⟩) hHeld ?_; rotate_left 1; (focus (intro w' hSw; (try dsimp only at hSw); go_simp; (try with_reducible rfl))); (try simp only [Act.put, List.setIfInBounds_toArray, List.set_cons_zero, List.set_cons_succ]))
  (refine wpAnyS_takeL (i := 10) (v := ?_) rfl (by kernel_rfl) (by kernel_rfl) (by kernel_rfl) (by kernel_rfl) (by kernel_rfl) (by kernel_rfl) (fun _ _ _ h => h) (Or.inl ⟨by rfl, ?_⟩) hHeld ?_; rotate_left 1; (focus (intro w' hSw; (try dsimp only at hSw); go_simp; (try with_reducible rfl))); (try simp only [Act.put, List.setIfInBounds_toArray, List.set_cons_zero, List.set_cons_succ]))
  (refine wpAnyS_takeL (i := 11) (v := ?_) rfl (by kernel_rfl) (by kernel_rfl) (by kernel_rfl) (by kernel_rfl) (by kernel_rfl) (by kernel_rfl) (fun _ _ _ h => h) (Or.inl ⟨by rfl, ?_⟩) hHeld ?_; rotate_left 1; (focus (intro w' hSw; (try dsimp only at hSw); go_simp; (try with_reducible rfl))); (try simp only [Act.put, List.setIfInBounds_toArray, List.set_cons_zero, List.set_cons_succ]))
  (refine wpAnyS_takeL (i := 12) (v := ?_) rfl (by kernel_rfl) (by kernel_rfl) (by kernel_rfl) (by kernel_rfl) (by kernel_rfl) (by kernel_rfl) (fun _ _ _ h => h) (Or.inl ⟨by rfl, ?_⟩) hHeld ?_; rotate_left 1; (focus (intro w' hSw; (try dsimp only at hSw); have y0 := hSw.1 0 _ rfl; have y1 := hSw.1 1 _ rfl; have y2 := hSw.1 2 _ rfl; have y3 := hSw.1 3 _ rfl; have y4 := hSw.1 4 _ rfl; have y5 := hSw.1 5 _ rfl; have y6 := hSw.1 6 _ rfl; have y7 := hSw.1 7 _ rfl; simp only [Nat.zero_add] at y0 y1 y2 y3 y4 y5 y6 y7; go_simp; (try with_reducible rfl))); (try simp only [Act.put, List.setIfInBounds_toArray, List.set_cons_zero, List.set_cons_succ]))
  (refine wpAnyS_takeL (i := 14) (v := ?_) rfl (by kernel_rfl) (by kernel_rfl) (by kernel_rfl) (by kernel_rfl) (by kernel_rfl) (by kernel_rfl) (fun _ _ _ h => h) (Or.inl ⟨by rfl, ?_⟩) hHeld ?_; rotate_left 1; (focus (intro w' hSw; (try dsimp only at hSw); have y0 := hSw.1 0 _ rfl; have y1 := hSw.1 1 _ rfl; have y2 := hSw.1 2 _ rfl; have y3 := hSw.1 3 _ rfl; have y4 := hSw.1 4 _ rfl; have y5 := hSw.1 5 _ rfl; have y6 := hSw.1 6 _ rfl; have y7 := hSw.1 7 _ rfl; simp only [Nat.zero_add] at y0 y1 y2 y3 y4 y5 y6 y7; go_simp; (try with_reducible rfl))); (try simp only [Act.put, List.setIfInBounds_toArray, List.set_cons_zero, List.set_cons_succ]))
  (refine wpAnyS_ready (rs := [13]) (by kernel_rfl) (by simp) ?_; refine AllS.consL rfl (fun K hK => ?_) AllS.nil)
  (go_simp; go_at_call 16; refine (may_any _ _ _ ⟨ka, da, ia, ta, pa, sa, aa, ma⟩ _ (OB.old h1 HA2.out) HZZ.out).mono ?_; rintro e w' ⟨rfl, hk2⟩; go_wp2_with fail)
  have h2 := h1.call0 hk2
  (refine hK.out _ _ ?_ (fun hHeld => ?_); (focus ((try dsimp only); exact HS.out _ _ _ h2)); clear hK K; (try simp only [Act.put, List.setIfInBounds_toArray, List.set_cons_zero, List.set_cons_succ]))
  (refine wpAnyS_ready (rs := [15]) (by kernel_rfl) (by simp) ?_; refine AllS.consL rfl (fun K hK => ?_) AllS.nil)
  (go_simp; go_at_call 11; refine (plain_any _ _ _ ⟨ka, da, ia, ta, pa, sa, aa, ma⟩ _ (OB.old h2 HA2.out) HLI.out.1).mono ?_; rintro e w' ⟨i61, rfl, hk3⟩; go_wp2_with fail)
  have h3 := h2.call1 hk3
  have hob3 := OB.old (h2.call0 hk3.bare) HA2.out
  have hi3 := hk3.sl0
  obtain ⟨_, _, rfl, _⟩ := id hk3.sl0
  (refine hK.out _ _ ?_ (fun hHeld => ?_); (focus ((try dsimp only); exact HS.out _ _ _ h3)); clear hK K; (try simp only [Act.put, List.setIfInBounds_toArray, List.set_cons_zero, List.set_cons_succ]))
  (refine wpAnyS_ready (rs := [16]) (by kernel_rfl) (by simp) ?_; refine AllS.consL rfl (fun K hK => ?_) AllS.nil)
  (go_simp; go_at_call 17; refine (rmay_any _ _ _ ⟨ka, da, ia, ta, pa, sa, aa, ma⟩ _ ⟨hob3.d, hi3, hob3.p⟩ HZZ.out HLI.out.2.2.1 HLI.out.1).mono ?_; rintro e w' ⟨rfl, hk4⟩; go_wp2_with fail)
  have h4 := h3.bare.call0 hk4
  clear hob3 hi3 hk3 h3 h2 h1
  (refine hK.out _ _ ?_ (fun hHeld => ?_); (focus ((try dsimp only); exact HS.out _ _ _ h4)); clear hK K; (try simp only [Act.put, List.setIfInBounds_toArray, List.set_cons_zero, List.set_cons_succ]))
  (refine wpAnyS_takeL (i := 17) (v := ?_) rfl (by kernel_rfl) (by kernel_rfl) (by kernel_rfl) (by kernel_rfl) (by kernel_rfl) (by kernel_rfl) (fun _ _ _ h => h) (Or.inl ⟨by rfl, ?_⟩) hHeld ?_; rotate_left 1; (focus (intro w' hSw; (try dsimp only at hSw); go_simp; (try with_reducible rfl))); (try simp only [Act.put, List.setIfInBounds_toArray, List.set_cons_zero, List.set_cons_succ]))
  (refine wpAnyS_takeL (i := 18) (v := ?_) rfl (by kernel_rfl) (by kernel_rfl) (by kernel_rfl) (by kernel_rfl) (by kernel_rfl) (by kernel_rfl) (fun _ _ _ h => h) (Or.inl ⟨by rfl, ?_⟩) hHeld ?_; rotate_left 1; (focus (intro w' hSw; (try dsimp only at hSw); go_simp; (try with_reducible rfl))); (try simp only [Act.put, List.setIfInBounds_toArray, List.set_cons_zero, List.set_cons_succ]))
  (refine wpAnyS_takeL (i := 19) (v := ?_) rfl (by kernel_rfl) (by kernel_rfl) (by kernel_rfl) (by kernel_rfl) (by kernel_rfl) (by kernel_rfl) (fun _ _ _ h => h) (Or.inl ⟨by rfl, ?_⟩) hHeld ?_; rotate_left 1; (focus (intro w' hSw; (try dsimp only at hSw); go_simp; (try with_reducible rfl))); (try simp only [Act.put, List.setIfInBounds_toArray, List.set_cons_zero, List.set_cons_succ]))
  (refine wpAnyS_takeL (i := 20) (v := ?_) rfl (by kernel_rfl) (by kernel_rfl) (by kernel_rfl) (by kernel_rfl) (by kernel_rfl) (by kernel_rfl) (fun _ _ _ h => h) (Or.inl ⟨by rfl, ?_⟩) hHeld ?_; rotate_left 1; (focus (intro w' hSw; (try dsimp only at hSw); have y0 := hSw.2.2.1 0 _ rfl; have y1 := hSw.2.2.1 1 _ rfl; have y2 := hSw.2.2.1 2 _ rfl; have y3 := hSw.2.2.1 3 _ rfl; have y4 := hSw.2.2.1 4 _ rfl; have y5 := hSw.2.2.1 5 _ rfl; have y6 := hSw.2.2.1 6 _ rfl; have y7 := hSw.2.2.1 7 _ rfl; simp only [Nat.zero_add] at y0 y1 y2 y3 y4 y5 y6 y7; go_simp; (try with_reducible rfl))); (try simp only [Act.put, List.setIfInBounds_toArray, List.set_cons_zero, List.set_cons_succ]))
  (refine wpAnyS_takeL (i := 22) (v := ?_) rfl (by kernel_rfl) (by kernel_rfl) (by kernel_rfl) (by kernel_rfl) (by kernel_rfl) (by kernel_rfl) (fun _ _ _ h => h) (Or.inl ⟨by rfl, ?_⟩) hHeld ?_; rotate_left 1; (focus (intro w' hSw; (try dsimp only at hSw); have y0 := hSw.2.2.2 0 _ rfl; have y1 := hSw.2.2.2 1 _ rfl; have y2 := hSw.2.2.2 2 _ rfl; have y3 := hSw.2.2.2 3 _ rfl; have y4 := hSw.2.2.2 4 _ rfl; have y5 := hSw.2.2.2 5 _ rfl; have y6 := hSw.2.2.2 6 _ rfl; have y7 := hSw.2.2.2 7 _ rfl; simp only [Nat.zero_add] at y0 y1 y2 y3 y4 y5 y6 y7; go_simp; (try with_reducible rfl))); (try simp only [Act.put, List.setIfInBounds_toArray, List.set_cons_zero, List.set_cons_succ]))
  (refine wpAnyS_ready (rs := [21]) (by kernel_rfl) (by simp) ?_; refine AllS.consL rfl (fun K hK => ?_) AllS.nil)
  (go_simp; go_at_call 11; refine (plain_any _ _ _ ⟨kq, dq, iq, tq, pq, sq, aq, mq⟩ _ (OB.old h4 HQ2.out) HQL.out).mono ?_; rintro e w' ⟨i62, rfl, hk5⟩; go_wp2_with fail)
  have h5 := h4.call1 hk5
  have hob5 := OB.old (h4.call0 hk5.bare) HQ2.out
  have hr5 := OB.old (h4.call0 hk5.bare) HR2.out
  have hi5 := hk5.sl0
  obtain ⟨_, _, rfl, _⟩ := id hk5.sl0
  (refine hK.out _ _ ?_ (fun hHeld => ?_); (focus ((try dsimp only); exact HS.out _ _ _ h5)); clear hK K; (try simp only [Act.put, List.setIfInBounds_toArray, List.set_cons_zero, List.set_cons_succ]))
  (refine wpAnyS_ready (rs := [23]) (by kernel_rfl) (by simp) ?_; refine AllS.consL rfl (fun K hK => ?_) AllS.nil)
  (go_simp; go_at_call 18; refine (rsame_self _ _ _ _ _ _ ⟨kq, dq, iq, tq, pq, sq, aq, mq⟩ _ ⟨hob5.d, hi5, hob5.p⟩ hr5).mono ?_; rintro e w' ⟨rfl, hk6⟩; go_wp2_with fail)
  have h6 := h5.bare.call0 hk6
  clear hob5 hr5 hi5 hk5 h5 h4
  (refine hK.out _ _ ?_ (fun hHeld => ?_); (focus ((try dsimp only); exact HS.out _ _ _ h6)); clear hK K; (try simp only [Act.put, List.setIfInBounds_toArray, List.set_cons_zero, List.set_cons_succ]))
  (refine wpAnyS_takeL (i := 24) (v := ?_) rfl (by kernel_rfl) (by kernel_rfl) (by kernel_rfl) (by kernel_rfl) (by kernel_rfl) (by kernel_rfl) (fun _ _ _ h => h) (Or.inl ⟨by rfl, ?_⟩) hHeld ?_; rotate_left 1; (focus (intro w' hSw; (try dsimp only at hSw); go_simp; (try with_reducible rfl))); (try simp only [Act.put, List.setIfInBounds_toArray, List.set_cons_zero, List.set_cons_succ]))
  (refine wpAnyS_takeL (i := 25) (v := ?_) rfl (by kernel_rfl) (by kernel_rfl) (by kernel_rfl) (by kernel_rfl) (by kernel_rfl) (by kernel_rfl) (fun _ _ _ h => h) (Or.inl ⟨by rfl, ?_⟩) hHeld ?_; rotate_left 1; (focus (intro w' hSw; (try dsimp only at hSw); go_simp; (try with_reducible rfl))); (try simp only [Act.put, List.setIfInBounds_toArray, List.set_cons_zero, List.set_cons_succ]))
  (refine wpAnyS_takeL (i := 26) (v := ?_) rfl (by kernel_rfl) (by kernel_rfl) (by kernel_rfl) (by kernel_rfl) (by kernel_rfl) (by kernel_rfl) (fun _ _ _ h => h) (Or.inl ⟨by rfl, ?_⟩) hHeld ?_; rotate_left 1; (focus (intro w' hSw; (try dsimp only at hSw); go_simp; (try with_reducible rfl))); (try simp only [Act.put, List.setIfInBounds_toArray, List.set_cons_zero, List.set_cons_succ]))
  (refine wpAnyS_takeL (i := 27) (v := ?_) rfl (by kernel_rfl) (by kernel_rfl) (by kernel_rfl) (by kernel_rfl) (by kernel_rfl) (by kernel_rfl) (fun _ _ _ h => h) (Or.inl ⟨by rfl, ?_⟩) hHeld ?_; rotate_left 1; (focus (intro w' hSw; (try dsimp only at hSw); go_simp; (try with_reducible rfl))); (try simp only [Act.put, List.setIfInBounds_toArray, List.set_cons_zero, List.set_cons_succ]))
  (refine wpAnyS_takeL (i := 28) (v := ?_) rfl (by kernel_rfl) (by kernel_rfl) (by kernel_rfl) (by kernel_rfl) (by kernel_rfl) (by kernel_rfl) (fun _ _ _ h => h) (Or.inl ⟨by rfl, ?_⟩) hHeld ?_; rotate_left 1; (focus (intro w' hSw; (try dsimp only at hSw); go_simp; (try with_reducible rfl))); (try simp only [Act.put, List.setIfInBounds_toArray, List.set_cons_zero, List.set_cons_succ]))
  (refine wpAnyS_takeL (i := 29) (v := ?_) rfl (by kernel_rfl) (by kernel_rfl) (by kernel_rfl) (by kernel_rfl) (by kernel_rfl) (by kernel_rfl) (fun _ _ _ h => h) (Or.inl ⟨by rfl, ?_⟩) hHeld ?_; rotate_left 1; (focus (intro w' hSw; (try dsimp only at hSw); go_simp; (try with_reducible rfl))); (try simp only [Act.put, List.setIfInBounds_toArray, List.set_cons_zero, List.set_cons_succ]))
  (refine wpAnyS_takeL (i := 30) (v := ?_) rfl (by kernel_rfl) (by kernel_rfl) (by kernel_rfl) (by kernel_rfl) (by kernel_rfl) (by kernel_rfl) (fun _ _ _ h => h) (Or.inl ⟨by rfl, ?_⟩) hHeld ?_; rotate_left 1; (focus (intro w' hSw; (try dsimp only at hSw); go_simp; (try with_reducible rfl))); (try simp only [Act.put, List.setIfInBounds_toArray, List.set_cons_zero, List.set_cons_succ]))
  (refine wpAnyS_takeL (i := 31) (v := ?_) rfl (by kernel_rfl) (by kernel_rfl) (by kernel_rfl) (by kernel_rfl) (by kernel_rfl) (by kernel_rfl) (fun _ _ _ h => h) (Or.inl ⟨by rfl, ?_⟩) hHeld ?_; rotate_left 1; (focus (intro w' hSw; (try dsimp only at hSw); have y0 := hSw.1 0 _ rfl; have y1 := hSw.1 1 _ rfl; have y2 := hSw.1 2 _ rfl; have y3 := hSw.1 3 _ rfl; have y4 := hSw.1 4 _ rfl; have y5 := hSw.1 5 _ rfl; have y6 := hSw.1 6 _ rfl; have y7 := hSw.1 7 _ rfl; simp only [Nat.zero_add] at y0 y1 y2 y3 y4 y5 y6 y7; go_simp; (try with_reducible rfl))); (try simp only [Act.put, List.setIfInBounds_toArray, List.set_cons_zero, List.set_cons_succ]))
  (refine wpAnyS_takeL (i := 32) (v := ?_) rfl (by kernel_rfl) (by kernel_rfl) (by kernel_rfl) (by kernel_rfl) (by kernel_rfl) (by kernel_rfl) (fun _ _ _ h => h) (Or.inl ⟨by rfl, ?_⟩) hHeld ?_; rotate_left 1; (focus (intro w' hSw; (try dsimp only at hSw); have y0 := hSw.2.1 0 _ rfl; have y1 := hSw.2.1 1 _ rfl; have y2 := hSw.2.1 2 _ rfl; have y3 := hSw.2.1 3 _ rfl; have y4 := hSw.2.1 4 _ rfl; have y5 := hSw.2.1 5 _ rfl; have y6 := hSw.2.1 6 _ rfl; have y7 := hSw.2.1 7 _ rfl; simp only [Nat.zero_add] at y0 y1 y2 y3 y4 y5 y6 y7; go_simp; (try with_reducible rfl))); (try simp only [Act.put, List.setIfInBounds_toArray, List.set_cons_zero, List.set_cons_succ]))
  (refine wpAnyS_takeL (i := 34) (v := ?_) rfl (by kernel_rfl) (by kernel_rfl) (by kernel_rfl) (by kernel_rfl) (by kernel_rfl) (by kernel_rfl) (fun _ _ _ h => h) (Or.inl ⟨by rfl, ?_⟩) hHeld ?_; rotate_left 1; (focus (intro w' hSw; (try dsimp only at hSw); have y0 := hSw.1 0 _ rfl; have y1 := hSw.1 1 _ rfl; have y2 := hSw.1 2 _ rfl; have y3 := hSw.1 3 _ rfl; have y4 := hSw.1 4 _ rfl; have y5 := hSw.1 5 _ rfl; have y6 := hSw.1 6 _ rfl; have y7 := hSw.1 7 _ rfl; simp only [Nat.zero_add] at y0 y1 y2 y3 y4 y5 y6 y7; go_simp; (try with_reducible rfl))); (try simp only [Act.put, List.setIfInBounds_toArray, List.set_cons_zero, List.set_cons_succ]))
  (refine wpAnyS_takeL (i := 36) (v := ?_) rfl (by kernel_rfl) (by kernel_rfl) (by kernel_rfl) (by kernel_rfl) (by kernel_rfl) (by kernel_rfl) (fun _ _ _ h => h) (Or.inl ⟨by rfl, ?_⟩) hHeld ?_; rotate_left 1; (focus (intro w' hSw; (try dsimp only at hSw); have y0 := hSw.2.1 0 _ rfl; have y1 := hSw.2.1 1 _ rfl; have y2 := hSw.2.1 2 _ rfl; have y3 := hSw.2.1 3 _ rfl; have y4 := hSw.2.1 4 _ rfl; have y5 := hSw.2.1 5 _ rfl; have y6 := hSw.2.1 6 _ rfl; have y7 := hSw.2.1 7 _ rfl; simp only [Nat.zero_add] at y0 y1 y2 y3 y4 y5 y6 y7; go_simp; (try with_reducible rfl))); (try simp only [Act.put, List.setIfInBounds_toArray, List.set_cons_zero, List.set_cons_succ]))
  (refine wpAnyS_ready (rs := [33]) (by kernel_rfl) (by simp) ?_; refine AllS.consL rfl (fun K hK => ?_) AllS.nil)
  (go_simp; go_at_call 19; refine (same_any _ _ _ _ _ _ ⟨ka, da, ia, ta, pa, sa, aa, ma⟩ ⟨kb, db, ib, tb, pb, sb, ab, mb⟩ _ (OB.old h6 HA2.out) (OB.old h6 HB2.out)).mono ?_; rintro e w' ⟨rfl, hk7⟩; go_wp2_with fail)
  have h7 := h6.call0 hk7
  (refine hK.out _ _ ?_ (fun hHeld => ?_); (focus ((try dsimp only); exact HS.out _ _ _ h7)); clear hK K; (try simp only [Act.put, List.setIfInBounds_toArray, List.set_cons_zero, List.set_cons_succ]))
  (refine wpAnyS_ready (rs := [35]) (by kernel_rfl) (by simp) ?_; refine AllS.consL rfl (fun K hK => ?_) AllS.nil)
  (go_simp; go_at_call 11; refine (plain_any _ _ _ ⟨ka, da, ia, ta, pa, sa, aa, ma⟩ _ (OB.old h7 HA2.out) HLI.out.1).mono ?_; rintro e w' ⟨i63, rfl, hk8⟩; go_wp2_with fail)
  have h8 := h7.call1 hk8
  obtain ⟨_, _, rfl, _⟩ := id hk8.sl0
  (refine hK.out _ _ ?_ (fun hHeld => ?_); (focus ((try dsimp only); exact HS.out _ _ _ h8)); clear hK K; (try simp only [Act.put, List.setIfInBounds_toArray, List.set_cons_zero, List.set_cons_succ]))
  (refine wpAnyS_ready (rs := [37]) (by kernel_rfl) (by simp) ?_; refine AllS.consL rfl (fun K hK => ?_) AllS.nil)
  (go_simp; go_at_call 11; refine (plain_any _ _ _ ⟨kb, db, ib, tb, pb, sb, ab, mb⟩ _ (OB.old h8 HB2.out) HLI.out.2.1).mono ?_; rintro e w' ⟨i64, rfl, hk9⟩; go_wp2_with fail)
  have h9 := h8.call1 hk9
  have hobA := OB.old h9 HA2.out
  have hobB := OB.old h9 HB2.out
  obtain ⟨_, _, rfl, _⟩ := id hk9.sl0
  (refine hK.out _ _ ?_ (fun hHeld => ?_); (focus ((try dsimp only); exact HS.out _ _ _ h9)); clear hK K; (try simp only [Act.put, List.setIfInBounds_toArray, List.set_cons_zero, List.set_cons_succ]))
  (refine wpAnyS_ready (rs := [38]) (by kernel_rfl) (by simp) ?_; refine AllS.consL rfl (fun K hK => ?_) AllS.nil)
  (go_simp; go_at_call 18; refine (rsame_any _ _ _ _ _ _ ⟨ka, da, ia, ta, pa, sa, aa, ma⟩ ⟨kb, db, ib, tb, pb, sb, ab, mb⟩ _ ⟨hobA.d, h9.sl1, hobA.p⟩ ⟨hobB.d, h9.sl0, hobB.p⟩).mono ?_; rintro e w' ⟨rfl, hk10⟩; go_wp2_with fail)
  have h10 := h9.bare.call0 hk10
  clear hobA hobB hk8 hk9 h9 h8 h7 h6
  (refine hK.out _ _ ?_ (fun hHeld => ?_); (focus ((try dsimp only); exact HS.out _ _ _ h10)); clear hK K; (try simp only [Act.put, List.setIfInBounds_toArray, List.set_cons_zero, List.set_cons_succ]))
  (refine wpAnyS_takeL (i := 39) (v := ?_) rfl (by kernel_rfl) (by kernel_rfl) (by kernel_rfl) (by kernel_rfl) (by kernel_rfl) (by kernel_rfl) (fun _ _ _ h => h) (Or.inl ⟨by rfl, ?_⟩) hHeld ?_; rotate_left 1; (focus (intro w' hSw; (try dsimp only at hSw); go_simp; (try with_reducible rfl))); (try simp only [Act.put, List.setIfInBounds_toArray, List.set_cons_zero, List.set_cons_succ]))
  (refine wpAnyS_takeL (i := 40) (v := ?_) rfl (by kernel_rfl) (by kernel_rfl) (by kernel_rfl) (by kernel_rfl) (by kernel_rfl) (by kernel_rfl) (fun _ _ _ h => h) (Or.inl ⟨by rfl, ?_⟩) hHeld ?_; rotate_left 1; (focus (intro w' hSw; (try dsimp only at hSw); go_simp; (try with_reducible rfl))); (try simp only [Act.put, List.setIfInBounds_toArray, List.set_cons_zero, List.set_cons_succ]))
  (refine wpAnyS_takeL (i := 41) (v := ?_) rfl (by kernel_rfl) (by kernel_rfl) (by kernel_rfl) (by kernel_rfl) (by kernel_rfl) (by kernel_rfl) (fun _ _ _ h => h) (Or.inl ⟨by rfl, ?_⟩) hHeld ?_; rotate_left 1; (focus (intro w' hSw; (try dsimp only at hSw); go_simp; (try with_reducible rfl))); (try simp only [Act.put, List.setIfInBounds_toArray, List.set_cons_zero, List.set_cons_succ]))
  (refine wpAnyS_takeL (i := 42) (v := ?_) rfl (by kernel_rfl) (by kernel_rfl) (by kernel_rfl) (by kernel_rfl) (by kernel_rfl) (by kernel_rfl) (fun _ _ _ h => h) (Or.inl ⟨by rfl, ?_⟩) hHeld ?_; rotate_left 1; (focus (intro w' hSw; (try dsimp only at hSw); have y0 := hSw.1 0 _ rfl; have y1 := hSw.1 1 _ rfl; have y2 := hSw.1 2 _ rfl; have y3 := hSw.1 3 _ rfl; have y4 := hSw.1 4 _ rfl; have y5 := hSw.1 5 _ rfl; have y6 := hSw.1 6 _ rfl; have y7 := hSw.1 7 _ rfl; simp only [Nat.zero_add] at y0 y1 y2 y3 y4 y5 y6 y7; go_simp; (try with_reducible rfl))); (try simp only [Act.put, List.setIfInBounds_toArray, List.set_cons_zero, List.set_cons_succ]))
  (refine wpAnyS_takeL (i := 44) (v := ?_) rfl (by kernel_rfl) (by kernel_rfl) (by kernel_rfl) (by kernel_rfl) (by kernel_rfl) (by kernel_rfl) (fun _ _ _ h => h) (Or.inl ⟨by rfl, ?_⟩) hHeld ?_; rotate_left 1; (focus (intro w' hSw; (try dsimp only at hSw); have y0 := hSw.1 0 _ rfl; have y1 := hSw.1 1 _ rfl; have y2 := hSw.1 2 _ rfl; have y3 := hSw.1 3 _ rfl; have y4 := hSw.1 4 _ rfl; have y5 := hSw.1 5 _ rfl; have y6 := hSw.1 6 _ rfl; have y7 := hSw.1 7 _ rfl; simp only [Nat.zero_add] at y0 y1 y2 y3 y4 y5 y6 y7; go_simp; (try with_reducible rfl))); (try simp only [Act.put, List.setIfInBounds_toArray, List.set_cons_zero, List.set_cons_succ]))
  (refine wpAnyS_ready (rs := [43]) (by kernel_rfl) (by simp) ?_; refine AllS.consL rfl (fun K hK => ?_) AllS.nil)
  (go_simp; go_at_call 21; refine (refs_any _ _ _ ⟨ka, da, ia, ta, pa, sa, aa, ma⟩ _ (OB.old h10 HA2.out) HLI.out.2.2.2.1 HLI.out.2.2.2.2).mono ?_; rintro e w' ⟨vl, rfl, hk11⟩; go_wp2_with fail)
  have h11 := h10.call1 hk11
  obtain ⟨_, _, rfl, _⟩ := id hk11.sl0
  (refine hK.out _ _ ?_ (fun hHeld => ?_); (focus ((try dsimp only); exact HS.out _ _ _ h11)); clear hK K; (try simp only [Act.put, List.setIfInBounds_toArray, List.set_cons_zero, List.set_cons_succ]))
  (refine wpAnyS_ready (rs := [45]) (by kernel_rfl) (by simp) ?_; refine AllS.consL rfl (fun K hK => ?_) AllS.nil)
  (go_simp; go_at_call 11; refine (plain_any _ _ _ ⟨ka, da, ia, ta, pa, sa, aa, ma⟩ _ (OB.old h11 HA2.out) HLI.out.1).mono ?_; rintro e w' ⟨i65, rfl, hk12⟩; go_wp2_with fail)
  have h12 := h11.call1 hk12
  have hobC := OB.old h12 HA2.out
  obtain ⟨_, _, rfl, _⟩ := id hk12.sl0
  (refine hK.out _ _ ?_ (fun hHeld => ?_); (focus ((try dsimp only); exact HS.out _ _ _ h12)); clear hK K; (try simp only [Act.put, List.setIfInBounds_toArray, List.set_cons_zero, List.set_cons_succ]))
  (refine wpAnyS_ready (rs := [46]) (by kernel_rfl) (by simp) ?_; refine AllS.consL rfl (fun K hK => ?_) AllS.nil)
  (go_simp; go_at_call 22; refine (rrefs_any _ _ _ ⟨ka, da, ia, ta, pa, sa, aa, ma⟩ _ ⟨hobC.d, h12.sl0, hobC.p⟩ HLI.out.2.2.2.1 HLI.out.2.2.2.2).mono ?_; rintro e w' ⟨vm, rfl, hk13⟩; go_wp2_with fail)
  have h13 := h12.call1 hk13
  obtain ⟨_, _, rfl, _⟩ := id hk13.sl0
  (refine hK.out _ _ ?_ (fun hHeld => ?_); (focus ((try dsimp only); exact HS.out _ _ _ h13)); clear hK K; (try simp only [Act.put, List.setIfInBounds_toArray, List.set_cons_zero, List.set_cons_succ]))
  (refine wpAnyS_ready (rs := [47]) (by kernel_rfl) (by simp) ?_; refine AllS.consL rfl (fun K hK => ?_) AllS.nil)
  (go_simp; go_at_call 20; refine (texts_same _ _ (refsL ⟨ka, da, ia, ta, pa, sa, aa, ma⟩) (refsL ⟨ka, da, ia, ta, pa, sa, aa, ma⟩) _ h13.sl2 h13.sl0 rfl).mono ?_; rintro e w' ⟨rfl, hk14⟩; go_wp2_with fail)
  have h14 := h13.bare.call0 hk14
  (refine hK.out _ _ ?_ (fun hHeld => ?_); (focus ((try dsimp only); exact HS.out _ _ _ h14)); clear hK K; (try simp only [Act.put, List.setIfInBounds_toArray, List.set_cons_zero, List.set_cons_succ]))
  (refine wpAnyS_takeL (i := 48) (v := ?_) rfl (by kernel_rfl) (by kernel_rfl) (by kernel_rfl) (by kernel_rfl) (by kernel_rfl) (by kernel_rfl) (fun _ _ _ h => h) (Or.inl ⟨by rfl, ?_⟩) hHeld ?_; rotate_left 1; (focus (intro w' hSw; (try dsimp only at hSw); go_simp; (try with_reducible rfl))); (try simp only [Act.put, List.setIfInBounds_toArray, List.set_cons_zero, List.set_cons_succ]))
  (refine wpAnyS_takeL (i := 49) (v := ?_) rfl (by kernel_rfl) (by kernel_rfl) (by kernel_rfl) (by kernel_rfl) (by kernel_rfl) (by kernel_rfl) (fun _ _ _ h => h) (Or.inl ⟨by rfl, ?_⟩) hHeld ?_; rotate_left 1; (focus (intro w' hSw; (try dsimp only at hSw); go_simp; (try with_reducible rfl))); (try simp only [Act.put, List.setIfInBounds_toArray, List.set_cons_zero, List.set_cons_succ]))
  (refine wpAnyS_takeL (i := 50) (v := ?_) rfl (by kernel_rfl) (by kernel_rfl) (by kernel_rfl) (by kernel_rfl) (by kernel_rfl) (by kernel_rfl) (fun _ _ _ h => h) (Or.inl ⟨by rfl, ?_⟩) hHeld ?_; rotate_left 1; (focus (intro w' hSw; (try dsimp only at hSw); go_simp; (try with_reducible rfl))); (try simp only [Act.put, List.setIfInBounds_toArray, List.set_cons_zero, List.set_cons_succ]))
  (refine wpAnyS_takeL (i := 51) (v := ?_) rfl (by kernel_rfl) (by kernel_rfl) (by kernel_rfl) (by kernel_rfl) (by kernel_rfl) (by kernel_rfl) (fun _ _ _ h => h) (Or.inl ⟨by rfl, ?_⟩) hHeld ?_; rotate_left 1; (focus (intro w' hSw; (try dsimp only at hSw); go_simp; (try with_reducible rfl))); (try simp only [Act.put, List.setIfInBounds_toArray, List.set_cons_zero, List.set_cons_succ]))
  (refine wpAnyS_ready (rs := [52]) (by kernel_rfl) (by simp) ?_; refine AllS.consL rfl (fun K hK => ?_) AllS.nil)
  (go_simp; go_at_call 15; refine (bytes_self _ _ b b _ rfl (h14.old HX2.out.2.2.1) (h14.old HX2.out.2.2.2)).mono ?_; rintro e w' ⟨rfl, rfl⟩; go_wp2_with fail)
  (refine hK.out _ _ ?_ (fun hHeld => ?_); (focus ((try dsimp only); exact HS.out _ _ _ h14)); clear hK K; (try simp only [Act.put, List.setIfInBounds_toArray, List.set_cons_zero, List.set_cons_succ]))
  (refine wpAnyS_takeL (i := 53) (v := ?_) rfl (by kernel_rfl) (by kernel_rfl) (by kernel_rfl) (by kernel_rfl) (by kernel_rfl) (by kernel_rfl) (fun _ _ _ h => h) (Or.inl ⟨by rfl, ?_⟩) hHeld ?_; rotate_left 1; (focus (intro w' hSw; (try dsimp only at hSw); go_simp; (try with_reducible rfl))); (try simp only [Act.put, List.setIfInBounds_toArray, List.set_cons_zero, List.set_cons_succ]))
  (refine wpAnyS_seq (by rfl) (by kernel_rfl) ?_; simp only [List.drop_succ_cons, List.drop_zero])
  go_wp2_with fail
  go_ret
  exact ⟨rfl, (HK.out.call0 h14).below⟩
end Go.Proofs.Ytlfdnlomlbbicaa
