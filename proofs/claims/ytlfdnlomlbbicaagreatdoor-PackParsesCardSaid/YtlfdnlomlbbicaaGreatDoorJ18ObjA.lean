/- Walks of slices.Equal over texts and items; obj.Refs, Same. A region that draws its order: an operation may be taken first if number t waits for it by way of others. Walks of pack.number, may, nearest. -/
import Derived.Test.YtlfdnlomlbbicaaGreatDoorObjD
import Derived.Test.YtlfdnlomlbbicaaGreatDoorJ6Held
import Derived.Test.YtlfdnlomlbbicaaGreatDoorDelY
namespace Go.Proofs.YtlfdnlomlbbicaaGreatDoor
open Go.RowKit Go.Mx

theorem decode_any (v : Value) (l : List UInt8) (w : World) (hv : Sl w 1 v l.length (bs l)) (hl : l.length ≤ 1000000000) :
    Calls Tryz.prog 31 #[v] w (DecPost w l) := by
  match l, hv, hl with
  | [], hv, _ => exact decode_nil v w hv
  | k :: r, hv, hl => exact decode_cons v k r w hv hl

theorem itm_cells {w : World} {v : Value} {l : List Itm} (hv : Sl w 3 v l.length (itms l)) : ∃ ao cap blk off, v = .slice ao l.length cap ∧ l.length ≤ cap ∧ cap ≤ 9223372036854775807 ∧ ∀ (i : Nat) (hi : i < l.length), ao = some ⟨blk, off, none⟩ ∧ w.cell? ⟨blk, off + i * 3, none⟩ = some (.int .i64 l[i].1) ∧ w.cell? ⟨blk, off + i * 3 + 1, none⟩ = some (.string l[i].2.1) ∧ w.cell? ⟨blk, off + i * 3 + 2, none⟩ = some (.string l[i].2.2) := by
  obtain ⟨ao, cap, blk, off, rfl, hc1, hc2, _, hcell⟩ := hv.anyC
  refine ⟨ao, cap, blk, off, rfl, hc1, hc2, fun i hi => ?_⟩
  have g0 := hcell (i * 3 + 0) _ ((flat_get (k := 3) (fun _ => rfl) l (by omega) hi).trans (show (itmRow l[i])[0]? = some (.int .i64 l[i].1) from rfl))
  have g1 := hcell (i * 3 + 1) _ ((flat_get (k := 3) (fun _ => rfl) l (by omega) hi).trans (show (itmRow l[i])[1]? = some (.string l[i].2.1) from rfl))
  have g2 := hcell (i * 3 + 2) _ ((flat_get (k := 3) (fun _ => rfl) l (by omega) hi).trans (show (itmRow l[i])[2]? = some (.string l[i].2.2) from rfl))
  exact ⟨g0.1, g0.2, g1.2, g2.2⟩

end Go.Proofs.YtlfdnlomlbbicaaGreatDoor

namespace Go.Mx
open Go Go.RowKit
section
variable {P : Program} {md : Region.Mode} {ops : Array Oper} {Q : Exit → Act → World → Prop} {t : Nat} {S : World → Prop}
/-- Which operations wait for number i, by way of others. -/
def downs (md : Region.Mode) (ops : Array Oper) (i : Nat) : Nat → List Nat → List Nat
  | 0, D => D
  | n + 1, D => downs md ops i n (match ops[ops.size - (n + 1)]? with
    | some o => if o.after.any (fun e => Region.binds md e && (e.on == i || D.contains e.on)) = true then (ops.size - (n + 1)) :: D else D
    | none => D)
/-- Each of them is not listed yet, and waits for i or for another of them. -/
def downB (md : Region.Mode) (ops : Array Oper) (listed : Array Bool) (i : Nat) (D : List Nat) : Bool :=
  D.all fun k => !listed.getD k true && match ops[k]? with
    | some o => o.after.any fun e => Region.binds md e && (e.on == i || D.contains e.on)
    | none => false
theorem downB_spec {listed : Array Bool} {i : Nat} {D : List Nat} (h : downB md ops listed i D = true) : (∀ k ∈ D, listed.getD k true = false) ∧ ∀ k ∈ D, ∀ o, ops[k]? = some o → ∃ e ∈ o.after, Region.binds md e = true ∧ (e.on = i ∨ e.on ∈ D) := by
  have h1 := List.all_eq_true.1 h
  refine ⟨fun k hk => ?_, fun k hk o ho => ?_⟩
  · have := h1 k hk
    rw [Bool.and_eq_true] at this
    simpa using this.1
  · have := h1 k hk
    rw [Bool.and_eq_true] at this
    have h2 := this.2
    rw [ho] at h2
    simp only [Array.any_eq_true'] at h2
    obtain ⟨e, he, hb⟩ := h2
    rw [Bool.and_eq_true, Bool.or_eq_true] at hb
    exact ⟨e, he, hb.1, by simpa using hb.2⟩
theorem wpAnyS_firstD {i : Nat} {oi : Oper} {v : Value} {D : List Nat} (hi : ops[i]? = some oi) (hsel : ∀ (j : Nat) (o : Oper) cs b, ops[j]? = some o → o.op ≠ .select cs b)
    (hit : i ≠ t) (htD : t ∈ D) (hD : ∀ k ∈ D, ∀ o, ops[k]? = some o → ∃ e ∈ o.after, Region.binds md e = true ∧ (e.on = i ∨ e.on ∈ D))
    (hQ : ∀ c a w, Q (.panic c) (a.put oi.dst v) w → Q (.panic c) a w) :
    ∀ (fuel : Nat) (listed : Array Bool) (a : Act) (w : World),
      (∀ j oj, ops[j]? = some oj → j ≠ i → listed.getD j true = false → (∀ e ∈ oj.after, Region.binds md e = true → e.on ≠ i) → oi.apart ops oj = true) →
      i ∈ Region.ready md ops listed → (∀ k ∈ D, listed.getD k true = false) → YieldsIf P ops S oi v a → S w →
      wpAnyS P md ops Q t S fuel (listed.setIfInBounds i true) (a.put oi.dst v) w → wpAnyS P md ops Q t S (fuel + 1) listed a w := by
  intro fuel
  induction fuel with
  | zero =>
    intro listed a w _ hr _ hy hS H
    refine ⟨fun h => (by rw [h] at hr; cases hr), fun j hj => ?_⟩
    by_cases hji : j = i
    · subst hji; exact hy.wpOp hi hS ⟨fun _ => hS, H⟩
    · have := ready_mono hj hji
      rw [H.1] at this
      cases this
  | succ fuel ih =>
    intro listed a w hfree hr hlt hy hS H
    refine ⟨fun h => (by rw [h] at hr; cases hr), fun j hj => ?_⟩
    by_cases hji : j = i
    · subst hji; exact hy.wpOp hi hS ⟨fun _ => hS, H⟩
    · have h1 := H.2 j (ready_mono hj hji)
      obtain ⟨hjun, oj, hoj, hall⟩ := mem_ready.1 hj
      have hi0 := (mem_ready.1 hr).1
      have hun : ∀ k, (k = i ∨ k ∈ D) → listed.getD k false = false := by
        intro k hk
        have hk0 : listed.getD k true = false := by
          rcases hk with rfl | hk
          · exact hi0
          · exact hlt k hk
        rcases Nat.lt_or_ge k listed.size with h' | h'
        · simp [h'] at hk0 ⊢; exact hk0
        · simp [Array.getElem?_eq_none h'] at hk0
      have hnot : ∀ e ∈ oj.after, Region.binds md e = true → e.on ≠ i := fun e he hb heq => by
        have h1 := hall e he hb
        rw [heq, hun i (.inl rfl)] at h1
        cases h1
      have hjD : j ∉ D := by
        intro hjD
        obtain ⟨e, he, hb, hon⟩ := hD j hjD oj hoj
        have h1 := hall e he hb
        rw [hun e.on hon] at h1
        cases h1
      have h2 := wpOp_putIf hoj (hfree j oj hoj hji hjun hnot) (fun cs b => hsel i oi cs b hi) (fun cs b => hsel j oj cs b hoj) hQ hy h1
      have hfree' : ∀ k ok, ops[k]? = some ok → k ≠ i → (listed.setIfInBounds j true).getD k true = false →
          (∀ e ∈ ok.after, Region.binds md e = true → e.on ≠ i) → oi.apart ops ok = true := fun k ok hk hki hun hno => by
        refine hfree k ok hk hki ?_ hno
        by_cases hjk : j = k
        · subst hjk; exact hjun
        · rw [getD_set_ne true hjk] at hun; exact hun
      have hlt' : ∀ k ∈ D, (listed.setIfInBounds j true).getD k true = false := fun k hk => by
        have hjk : j ≠ k := fun e => by subst e; exact hjD hk
        rw [getD_set_ne true hjk]
        exact hlt k hk
      refine wpOp_mono (fun a' w' h3 => ?_) h2
      obtain ⟨h3y, h3S, h3w⟩ := h3
      have hSw : S w' := h3S (by
        have hjt : j ≠ t := fun e => by subst e; exact hjD htD
        rw [getD_set_ne true hjt, getD_set_ne true hit]
        exact hlt t htD)
      refine ⟨fun _ => hSw, ih (listed.setIfInBounds j true) a' w' hfree' (ready_mono hr (Ne.symm hji)) hlt' h3y hSw ?_⟩
      rw [Array.setIfInBounds_comm _ _ hji]
      exact h3w
/-- Take number i of a list first: number t waits for it by way of others. -/
theorem wpAnyS_takeD {l : List Oper} {i : Nat} {oi : Oper} {v : Value} {fuel : Nat} {listed : Array Bool} {a : Act} {w : World} (hi : l[i]? = some oi)
    (hs : Region.noSelect l.toArray = true) (hf : Region.free md l.toArray listed i = true) (hr : (Region.ready md l.toArray listed).contains i = true)
    (hD : ((downs md l.toArray i l.toArray.size []).contains t && downB md l.toArray listed i (downs md l.toArray i l.toArray.size [])) = true) (hit : (i != t) = true)
    (hQ : ∀ c a w, Q (.panic c) (a.put oi.dst v) w → Q (.panic c) a w) (hy : YieldsIf P l.toArray S oi v a) (hS : S w)
    (h : wpAnyS P md l.toArray Q t S fuel (listed.setIfInBounds i true) (a.put oi.dst v) w) : wpAnyS P md l.toArray Q t S (fuel + 1) listed a w := by
  rw [Bool.and_eq_true] at hD
  obtain ⟨h1, h2⟩ := downB_spec hD.2
  exact wpAnyS_firstD (by simpa using hi) (Region.noSelect_spec hs) (by simpa using hit) (by simpa using hD.1) h2 hQ fuel listed a w (Region.free_spec (by simpa using hi) hf) (by simpa using hr) h1 hy hS h
end
end Go.Mx

namespace Go.Mx
open Go Go.RowKit
/-- What is wrong with a few objects. -/
def mayE (l : List (List UInt8)) : Int := if (∀ x ∈ l, (decO x).2 = 0) then 0 else 4
theorem mayE_0 {l : List (List UInt8)} (h : ∀ x ∈ l, (decO x).2 = 0) : mayE l = 0 := by unfold mayE; rw [if_pos h]
theorem mayE_4 {l : List (List UInt8)} {x : List UInt8} (hx : x ∈ l) (h : (decO x).2 ≠ 0) : mayE l = 4 := by unfold mayE; rw [if_neg fun k => h (k x hx)]
end Go.Mx
namespace Go.Proofs.YtlfdnlomlbbicaaGreatDoor
open Go.RowKit Go.Mx
theorem pnumber_app (w0 w : World) (R : List Row) (Q : List Rd) (v : Value) (xs : List Value) (n k : Nat) (hs : St w0 w (⟨v, 5, 1, n, xs⟩ :: R) Q) (hk : k ≤ 72057594037927936) (hn : n ≤ 100000000) :
    Calls Tryz.prog 19 #[v, .int .i64 (k : Int)] w fun e w' => ∃ v', e = .returned v' ∧ St w0 w' (⟨v', 5, 1, n + (putL k).length, xs ++ bs (putL k)⟩ :: R) Q := by
  have h9 := putL_9 hk
  go_enter Tryz.func19, Tryz.ntmps19
  go_wp2_with fail
  refine (Put_any (k : Int) _ (wf_nat (by omega))).mono ?_
  rintro e w1 hp
  obtain ⟨x, rfl, hx⟩ := hp.good hk
  have hs1 := (hs.call1 hx).swap
  generalize hpl : (putL k).length = pl at *
  go_wp2_with (at_builtin; refine wpl_app rfl _ _ 25 rfl Tryz.elU8 hs1 rfl (by exact hx.sl0) (bs_one _) (by omega) ?_; intro v2 w2 hs2 _)
  go_ret
  rw [hpl]
  exact ⟨v2, rfl, hs2.sub (List.Sublist.cons_cons _ (List.sublist_cons_self _ _)) fun _ h => h⟩
set_option maxRecDepth 100000 in
set_option maxHeartbeats 2000000 in
theorem pmay_any (v : Value) (l : List (List UInt8)) (w : World) (hv : LL w v l) (hl : l.length ≤ 512) (hz : ∀ x ∈ l, x.length ≤ 20000) :
    Calls Tryz.prog 18 #[v] w fun e w' => e = .returned (.int .i64 (mayE l)) ∧ St w w' [] [] := by
  obtain ⟨ao, cap, blk, off, us, rfl, h1, h2, hc, hs⟩ := hv.at
  have HC := Mx.hid (fun k hk => (⟨(hc k hk).1, (hc k hk).2⟩ : ao = some ⟨blk, off, none⟩ ∧ w.cell? ⟨blk, off + k, none⟩ = some (us k)))
  have HS := Mx.hid hs
  have HZ := Mx.hid (fun (k : Nat) (hk : k < l.length) => hz l[k] (List.getElem_mem hk))
  clear hv hc hs hz
  go_enter Tryz.func18, Tryz.ntmps18
  go_wp2_with fail
  go_loopw [14] (fun y wr => ∃ i : Nat, y = .int .i64 i ∧ i ≤ l.length ∧ w = wr) (fun y _ => l.length - (intOf y).toNat)
  case atStart => exact ⟨0, rfl, by omega, rfl⟩
  case round =>
    obtain ⟨i, rfl, hi, rfl⟩ := hrel
    by_cases hlt : i < l.length
    · obtain ⟨rfl, a0⟩ := HC.out i hlt
      have hx := HS.out i hlt
      obtain ⟨xo, xc, hu, _⟩ := Sl.form hx
      have hlz := HZ.out i hlt
      rw [hu] at a0
      have hd : decide ((20000 : Int) < (l[i].length : Int)) = false := decide_eq_false (by omega)
      clear hx hu
      generalize l[i].length = n at *
      go_wp2_with fail
      exact ⟨⟨i + 1, by go_num, by omega, by trivial⟩, by simp [intOf]; omega⟩
    · go_wp2_with fail
      go_loopw [24] (fun y wr => ∃ i : Nat, y = .int .i64 i ∧ i ≤ l.length ∧ Hid (∀ x ∈ l.take i, (decO x).2 = 0) ∧ St w wr [] []) (fun y _ => l.length - (intOf y).toNat)
      case atStart => exact ⟨0, rfl, by omega, by simp [Hid], St.refl w⟩
      case round =>
        clear hlt hi
        obtain ⟨i, rfl, hi, HD, hq⟩ := hrel
        by_cases hlt : i < l.length
        · obtain ⟨rfl, a0⟩ := HC.out i hlt
          have hx := HS.out i hlt
          obtain ⟨xo, xc, hu, _⟩ := Sl.form hx
          have hlz := HZ.out i hlt
          have HTK := Mx.hid (List.take_succ_eq_append_getElem hlt)
          have HMEM := Mx.hid (List.getElem_mem hlt)
          replace a0 := hq.keep a0
          rw [hu] at a0 hx
          have HX := Mx.hid (decode_any _ l[i] wr (hq.old hx) (by omega))
          have HM4 := Mx.hid (fun h => mayE_4 HMEM.out h)
          clear hx hu
          generalize l[i] = b at *
          go_wp2_with fail
          refine HX.out.mono ?_
          unfold DecPost
          rintro e w1 ⟨dv, iv, pv, rfl, h3⟩
          generalize (decO b).1 = o at *
          generalize her : (decO b).2 = er at *
          have HER := Mx.hid her
          clear her
          obtain ⟨kq, dq, iq, tq, pq, sq, aq, mq⟩ := o
          obtain ⟨qd1, qd2, rfl, _⟩ := id (show Sl w1 1 dv dq.length (bs dq) from h3.sl0)
          obtain ⟨qi1, qi2, rfl, _⟩ := id (show Sl w1 3 iv iq.length (itms iq) from h3.sl1)
          obtain ⟨qp1, qp2, rfl, _⟩ := id (show Sl w1 1 pv pq.length (ss pq) from h3.sl2)
          simp only [OV, obR] at h3 ⊢
          by_cases h0 : er = 0
          · subst h0
            go_wp2_with (((with_reducible show wpList _ _ _ _ _ _); refine wpl_storeA rfl 72 _ _ rfl Tryz.aObj (h3.madeAt ([.int .i64 (0), .slice none 0 0, .slice none 0 0, .string (str []), .slice none 0 0, .int .i64 (0), .int .i64 (0), .string (str [])]).toArray 72 8 1 _ rfl (by simp [maxLen]) rfl) (0) rfl ([.int .i64 kq, .slice qd1 dq.length qd2, .slice qi1 iq.length qi2, .string tq, .slice qp1 pq.length qp2, .int .i64 sq, .int .i64 aq, .string mq]) rfl (by rfl) (by simp) (by intro u hu; simp at hu; rcases hu with rfl | rfl | rfl | rfl | rfl | rfl | rfl | rfl <;> rfl) ?_; intro w2 hs2))
            refine ⟨⟨i + 1, by go_num, by omega, ?_, hq.call0 hs2.bare⟩, by simp [intOf]; omega⟩
            show ∀ x ∈ _, _
            rw [HTK.out]
            intro x hx
            rcases List.mem_append.1 hx with hx | hx
            · exact HD.out x hx
            · rw [List.mem_singleton.1 hx]; exact HER.out
          · have hb : (er != 0) = true := by simpa using h0
            have HE := Mx.hid (HM4.out h0)
            go_wp2_with (((with_reducible show wpList _ _ _ _ _ _); refine wpl_storeA rfl 72 _ _ rfl Tryz.aObj (h3.madeAt ([.int .i64 (0), .slice none 0 0, .slice none 0 0, .string (str []), .slice none 0 0, .int .i64 (0), .int .i64 (0), .string (str [])]).toArray 72 8 1 _ rfl (by simp [maxLen]) rfl) (0) rfl ([.int .i64 kq, .slice qd1 dq.length qd2, .slice qi1 iq.length qi2, .string tq, .slice qp1 pq.length qp2, .int .i64 sq, .int .i64 aq, .string mq]) rfl (by rfl) (by simp) (by intro u hu; simp at hu; rcases hu with rfl | rfl | rfl | rfl | rfl | rfl | rfl | rfl <;> rfl) ?_; intro w2 hs2))
            go_ret
            exact ⟨by rw [HE.out]; rfl, hq.call0 hs2.bare⟩
        · have HE := Mx.hid (mayE_0 (l := l) (by have := HD.out; rwa [List.take_of_length_le (by omega)] at this))
          go_wp2_with fail
          go_ret
          exact ⟨by rw [HE.out]; rfl, hq⟩
theorem head_eq {a b : List UInt8} (ha : 0 < a.length) (hb : 0 < b.length) : a.head? = b.head? ↔ a[0] = b[0] := by
  cases a with
  | nil => simp at ha
  | cons x a =>
    cases b with
    | nil => simp at hb
    | cons y b => simp
set_option maxRecDepth 100000 in
set_option maxHeartbeats 2000000 in
theorem nearest_any (v : Value) (l : List (List UInt8)) (vd : Value) (D : List Int) (i : Nat) (pre : List (List UInt8 × Nat)) (w : World) (hv : LL w v l) (hd : Sl w 1 vd D.length (is D)) (hi : i < l.length) (hl : l.length ≤ 512) (hDl : D.length = l.length) (hne : ∀ x ∈ l, x ≠ [])
    (hp1 : pre.map Prod.fst = l.take i) (hp2 : ∀ (j : Nat) (p : List UInt8 × Nat), pre[j]? = some p → D[j]? = some (p.2 : Int)) :
    Calls Tryz.prog 20 #[v, vd, .int .i64 (i : Int)] w fun e w' => e = .returned (.int .i64 (nearN pre l[i] : Int)) ∧ St w w' [] [] := by
  have hpl : pre.length = i := by have := congrArg List.length hp1; rw [List.length_map, List.length_take] at this; omega
  obtain ⟨ao, cap, blk, off, us, rfl, h1, h2, hc, hs⟩ := hv.at
  obtain ⟨do_, dcap, rfl, d1, d2, _, _, d5⟩ := hd.form
  have hDne : is D ≠ [] := by intro h; have := congrArg List.length h; simp [is] at this; subst this; simp at hDl; omega
  obtain ⟨db, dof, rfl, hdc⟩ := d5 hDne
  have HD := Mx.hid hdc
  have HC := Mx.hid (fun k hk => (⟨(hc k hk).1, (hc k hk).2⟩ : ao = some ⟨blk, off, none⟩ ∧ w.cell? ⟨blk, off + k, none⟩ = some (us k)))
  have HS := Mx.hid hs
  have HNE := Mx.hid (fun (k : Nat) (hk : k < l.length) => (show 0 < l[k].length from List.length_pos_iff.2 (hne _ (List.getElem_mem hk))))
  have HP1 := Mx.hid hp1
  have HP2 := Mx.hid hp2
  have HPL := Mx.hid hpl
  have HDL := Mx.hid hDl
  obtain ⟨rfl, a0⟩ := HC.out i hi
  have hx := HS.out i hi
  obtain ⟨xo, xc, xb, xf, hu, _, _, _, hxc⟩ := hx.byt
  obtain ⟨rfl, a1⟩ := hxc 0 (HNE.out i hi)
  rw [Nat.add_zero] at a1
  rw [hu] at a0
  have hxl := HNE.out i hi
  have HH := Mx.hid (fun (k : Nat) (hk : k < l.length) => head_eq (HNE.out k hk) (HNE.out i hi))
  clear hv hd hc hs hne hp1 hp2 hpl hdc d5 hDne hx hu hxc
  generalize l[i][0] = c2 at *
  generalize hX : l[i] = x at *
  have HX := Mx.hid hX
  clear hX
  go_enter Tryz.func20, Tryz.ntmps20
  go_wp2_with fail
  go_loopw [7] (fun y wr => ∃ (n : Nat) (z : Int), y = .int .i64 z ∧ Hid (z = (n : Int) - 1) ∧ n ≤ i ∧ Hid (∀ j, n ≤ j → ∀ q, pre[j]? = some q → ¬ (q.1.head? = x.head? ∧ q.2 < 8)) ∧ St w wr [] []) (fun y _ => (intOf y + 1).toNat)
  case atStart => exact ⟨i, _, rfl, Mx.hid (by go_num), Nat.le_refl _, Mx.hid (fun j hj q hq => by have := (List.getElem?_eq_some_iff.1 hq).1; have := HPL.out; omega), St.refl w⟩
  case round =>
    obtain ⟨n, z, rfl, HZ, hn, HNO, hq⟩ := hrel
    cases n with
    | zero =>
      obtain rfl : z = -1 := by have := HZ.out; omega
      have HE := Mx.hid (nearN_no fun j q hj => HNO.out j (Nat.zero_le _) q hj)
      go_wp2_with fail
      go_ret
      exact ⟨by rw [HE.out]; rfl, hq⟩
    | succ k =>
      obtain rfl : z = (k : Int) := by have := HZ.out; omega
      have hk : k < l.length := by omega
      have hkp : k < pre.length := by rw [HPL.out]; omega
      obtain ⟨_, b0⟩ := HC.out k hk
      have hy := HS.out k hk
      obtain ⟨yo, yc, yb, yf, hu, _, _, _, hyc⟩ := hy.byt
      obtain ⟨rfl, b1⟩ := hyc 0 (HNE.out k hk)
      rw [Nat.add_zero] at b1
      rw [hu] at b0
      have hpk : pre[k]? = some pre[k] := List.getElem?_eq_getElem hkp
      have hfst : pre[k].1 = l[k] := by
        have : (pre.map Prod.fst)[k]? = (l.take i)[k]? := by rw [HP1.out]
        rw [List.getElem?_map, hpk, List.getElem?_take, if_pos (by omega), List.getElem?_eq_getElem hk] at this
        simpa using this
      have hDk := HP2.out k _ hpk
      have d0 := HD.out k (.int .i64 (pre[k].2 : Int)) (by rw [is, List.getElem?_map, hDk]; rfl)
      have hyl := HNE.out k hk
      have HHK := Mx.hid (HH.out k hk)
      generalize l[k][0] = c1 at *
      rw [← hfst] at HHK
      have HST := Mx.hid (fun (h : pre[k].1.head? = x.head? ∧ pre[k].2 < 8) => nearN_at hpk h fun j hj q hq => HNO.out j (by omega) q hq)
      have HSK := Mx.hid (fun (h : ¬ (pre[k].1.head? = x.head? ∧ pre[k].2 < 8)) => (show ∀ j, k ≤ j → ∀ q, pre[j]? = some q → ¬ (q.1.head? = x.head? ∧ q.2 < 8) from fun j hj q hq => by
        by_cases e : j = k
        · subst e
          rw [hpk] at hq
          cases hq
          exact h
        · exact HNO.out j (by omega) q hq))
      have hkD : (k : Int) < (D.length : Int) := by rw [HDL.out]; omega
      clear hy hu hyc hfst hDk hpk
      generalize pre[k] = p at *
      obtain ⟨pb, pd⟩ := p
      simp only [] at HHK HST HSK d0
      have hki : k < i := by omega
      have HPL2 := Mx.hid (show pre.length - k = i - k by rw [HPL.out])
      by_cases hc1 : c1 = c2
      · have hb := u8_beqT hc1
        by_cases h8 : pd < 8
        · have hd8 : decide ((pd : Int) < 8) = true := decide_eq_true (by omega)
          have HE := Mx.hid (HST.out ⟨HHK.out.2 hc1, h8⟩)
          clear hc1 h8
          go_wp2_with fail
          refine wp_region_C (fun W' => St w W' [] []) (by kernel_rfl) (by kernel_rfl) (by exact hq.drew) ?_
          repeat ((first | (refine cq_y0 (v := ?_) (by with_reducible rfl) ?_ ?_; rotate_left 1; (focus (intro wq hq; (try dsimp only at hq); (have y0 := hq.keep a0; have y1 := hq.keep a1; have y2 := hq.keep b0; have y3 := hq.keep b1; have y4 := hq.keep d0); go_simp; (first | done | with_reducible rfl | fail)))) | (refine cq_no (by go_simp; first | done | (intro h9; cases h9)) ?_) | (refine cq_yes (v := ?_) (by go_simp) ?_ ?_; rotate_left 1; (focus (intro wq hq; (try dsimp only at hq); (have y0 := hq.keep a0; have y1 := hq.keep a1; have y2 := hq.keep b0; have y3 := hq.keep b1; have y4 := hq.keep d0); go_simp; (first | done | with_reducible rfl | fail))))); (try simp only [Act.put, List.setIfInBounds_toArray, List.set_cons_zero, List.set_cons_succ]))
          refine cq_nil ?_
          intro wq hq
          (try dsimp only at hq)
          go_wp2_with fail
          go_ret
          exact ⟨by rw [HE.out, HPL2.out, Int.ofNat_sub (Nat.le_of_lt hki)]; rfl, hq⟩
        · have hd8 : decide ((pd : Int) < 8) = false := decide_eq_false (by omega)
          have HK2 := Mx.hid (HSK.out fun h => h8 h.2)
          clear hc1 h8
          go_wp2_with fail
          refine wp_region_C (fun W' => St w W' [] []) (by kernel_rfl) (by kernel_rfl) (by exact hq.drew) ?_
          repeat ((first | (refine cq_y0 (v := ?_) (by with_reducible rfl) ?_ ?_; rotate_left 1; (focus (intro wq hq; (try dsimp only at hq); (have y0 := hq.keep a0; have y1 := hq.keep a1; have y2 := hq.keep b0; have y3 := hq.keep b1; have y4 := hq.keep d0); go_simp; (first | done | with_reducible rfl | fail)))) | (refine cq_no (by go_simp; first | done | (intro h9; cases h9)) ?_) | (refine cq_yes (v := ?_) (by go_simp) ?_ ?_; rotate_left 1; (focus (intro wq hq; (try dsimp only at hq); (have y0 := hq.keep a0; have y1 := hq.keep a1; have y2 := hq.keep b0; have y3 := hq.keep b1; have y4 := hq.keep d0); go_simp; (first | done | with_reducible rfl | fail))))); (try simp only [Act.put, List.setIfInBounds_toArray, List.set_cons_zero, List.set_cons_succ]))
          refine cq_nil ?_
          intro wq hq
          (try dsimp only at hq)
          go_wp2_with fail
          exact ⟨⟨k, _, rfl, Mx.hid (by go_num), by omega, HK2, hq⟩, by simp [intOf]⟩
      · have hb := u8_beqF hc1
        have HK2 := Mx.hid (HSK.out fun h => hc1 (HHK.out.1 h.1))
        clear hc1
        go_wp2_with fail
        refine wp_region_C (fun W' => St w W' [] []) (by kernel_rfl) (by kernel_rfl) (by exact hq.drew) ?_
        repeat ((first | (refine cq_y0 (v := ?_) (by with_reducible rfl) ?_ ?_; rotate_left 1; (focus (intro wq hq; (try dsimp only at hq); (have y0 := hq.keep a0; have y1 := hq.keep a1; have y2 := hq.keep b0; have y3 := hq.keep b1; have y4 := hq.keep d0); go_simp; (first | done | with_reducible rfl | fail)))) | (refine cq_no (by go_simp; first | done | (intro h9; cases h9)) ?_) | (refine cq_yes (v := ?_) (by go_simp) ?_ ?_; rotate_left 1; (focus (intro wq hq; (try dsimp only at hq); (have y0 := hq.keep a0; have y1 := hq.keep a1; have y2 := hq.keep b0; have y3 := hq.keep b1; have y4 := hq.keep d0); go_simp; (first | done | with_reducible rfl | fail))))); (try simp only [Act.put, List.setIfInBounds_toArray, List.set_cons_zero, List.set_cons_succ]))
        refine cq_nil ?_
        intro wq hq
        (try dsimp only at hq)
        go_wp2_with fail
        exact ⟨⟨k, _, rfl, Mx.hid (by go_num), by omega, HK2, hq⟩, by simp [intOf]⟩
end Go.Proofs.YtlfdnlomlbbicaaGreatDoor
